/-
  Layer 16: the laws' own functions: Long, awake; Build, Table, Entries as the laws call them.
-/
import Derived.Test.YtgabmfibfikdbaaGreatDoorZBokH0
import Derived.Test.YtgabmfibfikdbaaGreatDoorZBokI0
import Derived.Test.YtgabmfibfikdbaaGreatDoorZLebA
import Derived.Test.YtgabmfibfikdbaaGreatDoorZLib14
import Derived.Test.YtgabmfibfikdbaaGreatDoorZLib4
import Derived.Test.YtgabmfibfikdbaaGreatDoorZLib2
import Derived.Test.YtgabmfibfikdbaaGreatDoorRows
import Derived.LaidMore
import Derived.Lay
import Derived.Stop.Joined
import Derived.ChangeSame
import Derived.Test.YtgabmfibfikdbaaGreatDoorZLabU
import Derived.Test.YtgabmfibfikdbaaGreatDoorZLabD
import Derived.Test.YtgabmfibfikdbaaGreatDoorZBokC
import Derived.Test.YtgabmfibfikdbaaGreatDoorZLib9
import Derived.Test.YtgabmfibfikdbaaGreatDoorZLib24
import Derived.BigRegion

namespace Go.Proofs.YtgabmfibfikdbaaGreatDoor
open Go.RowKit Go.Bar Go.Bar.Leb Go.Bar.Frm Go.Bar.Lab Go.Bar.Xor Go.Bar.Mrg Go.Bar.Met Go.Bar.Bok

theorem SlAt.none0 (w : World) (sz : Nat) : SlAt w sz (.slice none 0 0) 0 [] := ⟨by simp, _, _, rfl, Nat.le_refl _, by decide, fun h => absurd h (by simp)⟩

def RetF (w : World) (m : Mt) (C I : List UInt8) (e : Ending) (w' : World) : Prop :=
  ∃ F fc S sc, e = .returned (.tuple #[.agg #[.string (bs m.id), .int .i64 m.mn, .int .i64 m.mx, .int .i64 m.lv, .int .i64 m.sr, .int .i64 m.sm, .slice F 2 fc, .slice S 0 sc, .string (bs C), .string (bs I)], .int .i64 0]) ∧ FlsAt w' (.slice F 2 fc) m.fs ∧ Below w.heap.size w w'
theorem built (t s : Nat) (b lv : Int) (tv : Value) (T : List Rv) (R : List Row) (w : World) (hW : WidthsAt w) (hT : TbAt w tv T) (he : T.map plR = R) (hs : SmallT 0 b R) (hb : 0 < b) (hb2 : b ≤ 1099511627776) (h1 : 1 ≤ lv) (h9 : lv ≤ 9) (ht : t < 32 ^ 8) (hs2 : s < 32 ^ 8) :
    Calls Tryz.prog 22 #[.string (bs (Idt.mk t s)), .int .i64 0, .int .i64 b, .int .i64 lv, .slice none 0 0, tv] w (RetF w (bMt (Idt.mk t s) 0 b lv [] R) (bCh R) (idxB (bEn R 0))) := by
  have hl : T.length = R.length := by rw [← he, List.length_map]
  subst he
  have hch := hs.ch (Int.le_refl _) hb2
  have hix := hs.idx (Int.le_refl _) hb2
  have hc := hs.cnt
  have hn := hs.n
  refine (kbuild_ok (Idt.mk t s) 0 b lv (.slice none 0 0) [] tv T w hW (SlAt.none0 w 1) hT (by rw [Idt.mk_length]; omega) ⟨Nat.zero_le _, fun s hs => by cases hs⟩ (by omega) (fun r hr => ⟨hs.smok (Int.le_refl _) hb2 r hr, by have := hs.len r hr; omega⟩) (fun r hr => ?_) (by omega) (by omega) (by omega) (hs.bd (Int.le_refl _) hb hb2 h1 h9 ht hs2)).mono ?_
  · obtain ⟨k, hk⟩ := hs.lab r hr
    have hok := lab5_ok k
    rw [← hk] at hok
    exact ⟨by have := hok.2.1; omega, fun p hp => by have h1 := okP_len (hok.2.2.1 p hp); omega⟩
  · rintro e w' (⟨_, F, fc, S, sc, rfl, hf, _, hbl⟩ | ⟨h, _⟩)
    · exact ⟨F, fc, S, sc, rfl, SlAt.of_buf hf, hbl⟩
    · exact absurd (hs.bd (Int.le_refl _) hb hb2 h1 h9 ht hs2) h
def RetT0 (w : World) (R : List Row) (e : Ending) (w' : World) : Prop := ∃ v t, e = .returned (.tuple #[v, .int .i64 0]) ∧ RTb w w' 94 v t ∧ t.map plR = R
theorem tabled (t s : Nat) (b lv : Int) (R : List Row) (F : Option Addr) (fc : Nat) (S : Option Addr) (sc : Nat) (w : World) (hW : WidthsAt w) (hF : FlsAt w (.slice F 2 fc) (bMt (Idt.mk t s) 0 b lv [] R).fs) (hs : SmallT 0 b R) (hb : 0 < b) (hb2 : b ≤ 1099511627776) (h1 : 1 ≤ lv) (h9 : lv ≤ 9) (ht : t < 32 ^ 8) (hs2 : s < 32 ^ 8) :
    Calls Tryz.prog 27 #[.agg #[.string (bs (Idt.mk t s)), .int .i64 0, .int .i64 b, .int .i64 lv, .int .i64 (R.length : Nat), .int .i64 (cntR R : Nat), .slice F 2 fc, .slice S 0 sc, .string (bs (bCh R)), .string (bs (idxB (bEn R 0)))]] w (RetT0 w R) := by
  have hch := hs.ch (Int.le_refl _) hb2
  have hix := hs.idxB (Int.le_refl _) hb2
  refine (ktable_ok (bMt (Idt.mk t s) 0 b lv [] R) ⟨chunksN, (bCh R).length, Frm.sum (bCh R)⟩ ⟨indexN, (idxB (bEn R 0)).length, Frm.sum (idxB (bEn R 0))⟩ rfl (.slice F 2 fc) (.slice S 0 sc) (bCh R) (idxB (bEn R 0)) w hW hF (by omega) (by omega) (by rw [hs.back (Int.le_refl _) hb hb2 h1 h9 ht hs2])).mono ?_
  rw [hs.back (Int.le_refl _) hb hb2 h1 h9 ht hs2]
  exact fun e w' h => h
def RetEs0 (w : World) (R : List Row) (e : Ending) (w' : World) : Prop := ∃ v l, e = .returned (.tuple #[v, .int .i64 0]) ∧ DEs w w w w' 45 128 v l ∧ l.map plE = bEn R 0
theorem entried (b : Int) (R : List Row) (w : World) (hs : SmallT 0 b R) (hb2 : b ≤ 1099511627776) : Calls Tryz.prog 10 #[.string (bs (idxB (bEn R 0)))] w (RetEs0 w R) := by
  have hch := hs.ch (Int.le_refl _) hb2
  have hix := hs.idx (Int.le_refl _) hb2
  have hixB := hs.idxB (Int.le_refl _) hb2
  have hn := hs.n
  refine (kentries_any (idxB (bEn R 0)) w (by omega)).mono ?_
  rw [entriesR_of (bEn_ok (hs.row (Int.le_refl _) hb2) hs.good (by omega)) (bEn_rls R 0 hs.good.1) (by rw [bEn_len]; omega) (by omega)]
  exact fun e w' h => h

set_option maxHeartbeats 8000000 in
set_option maxRecDepth 10000 in
theorem long_any (n st : Nat) (w : World) (hn : n ≤ 400) (hs : st ≤ 1000) : Calls Tryz.prog 34 #[.int .i64 (n : Nat), .int .i64 (st : Nat)] w (RetTb w 94 (longT n st)) := by
  have hl : ∀ w, Calls Tryz.prog 56 #[.int .u8 0] w (RetN14 w 128 (lab5 0)) := fun w => labels_any 0 w
  obtain ⟨L, hL⟩ : ∃ L, L = lab5 0 := ⟨_, rfl⟩
  rw [← hL] at hl
  have HL := Lib.hid hL
  have hmin : min (n : Int) 400 = (n : Int) := by omega
  clear hL
  go_enter Tryz.func34, Tryz.ntmps34
  go_wp2_with fail
  refine (hl _).mono ?_
  rintro e w1 ⟨lv, rfl, hlv⟩
  obtain ⟨lA, lc, rfl, hlc⟩ := hlv.buf.shape
  have HLV := Lib.hid hlv
  clear hl hlv
  go_upto_region 3 with fail
  obtain ⟨wz, hwz⟩ : ∃ wz, wz = w1.alloc (.cells #[.slice lA L.length lc, .slice none 0 0] 94) := ⟨_, rfl⟩
  have X1 : Hid (Blk wz w1.heap.size 94 #[.slice lA L.length lc, .slice none 0 0]) := Lib.hid (by rw [hwz]; exact Blk.new _ _ _)
  have b1 : Below w1.heap.size w1 wz := by rw [hwz]; exact below_al _ _
  obtain ⟨X, hX⟩ : ∃ X, X = w1.heap.size := ⟨_, rfl⟩
  have HLZ := Lib.hid (HLV.out.then_below b1)
  have HXw : Hid (w.heap.size ≤ X) := Lib.hid (by rw [hX]; exact HLV.out.below.size)
  rw [← hwz, ← hX]
  rw [← hX] at X1
  clear hwz hX HLV b1
  go_loopw [6] (fun iv wr => ∃ (k : Nat) (sv : Value), iv = .int .i64 k ∧ k ≤ n ∧ Hid (Blk wr X 94 #[.slice lA L.length lc, sv]) ∧ Hid (NBuf w wr 41 2 sv k (smc (longS k st))) ∧ Hid (NBuf w wr 128 2 (.slice lA L.length lc) L.length (pcs L))) (fun iv _ => n - (intOf iv).toNat)
  case atStart => exact ⟨0, _, rfl, Nat.zero_le _, X1, Lib.hid (NBuf.nil HLZ.out.below _ _), HLZ⟩
  case round =>
    obtain ⟨k, sv, rfl, hk, HX, HS, HLR⟩ := hrel
    clear X1 HLZ
    obtain ⟨sA, sc, rfl, hsc⟩ := HS.out.buf.shape
    obtain ⟨r0, r1⟩ := HX.out.c2
    by_cases hgo : k < n
    · have hmul : (k : Int) * (st : Int) = ((k * st : Nat) : Int) := by rw [Int.natCast_mul]
      have hkst : k * st ≤ 400000 := Nat.le_trans (Nat.mul_le_mul (by omega : k ≤ 400) hs) (by decide)
      have hw1 : wrap64 ((k * st : Nat) : Int) = ((k * st : Nat) : Int) := by unfold wrap64; omega
      obtain ⟨m3, hm3⟩ : ∃ m, m = k % 3 := ⟨_, rfl⟩
      have hmod : (k : Int) % 3 = ((m3 : Nat) : Int) := by omega
      have HM3 := Lib.hid hm3
      have hm3b : m3 < 3 := by omega
      obtain ⟨T, hT⟩ : ∃ T, T = k * st := ⟨_, rfl⟩
      rw [← hT] at hmul hkst hw1
      have HT := Lib.hid hT
      have f1 := HX.out.free 1
      have hlit := below_al wr (.cells #[.int .i64 (T : Nat), .int .u64 (m3 : Nat)] 41)
      have HN1 := Lib.hid (HS.out.then_below hlit)
      have HX1 := Lib.hid (HX.out.below hlit)
      have HL1 := Lib.hid (HLR.out.then_below hlit)
      clear hT hlit hm3
      go_wp2_with (at_builtin; refine wpList_append_nlit rfl (.tmp 16) (.tmp 24) 32 rfl sm_ty rfl HS.out rfl (by simp) rfl (by simp [Value.oneCell']) (by simp only [maxLen]; omega) (by omega) ?_; intro v7 w7 hn7 ha7; have hk7 := Ke.of_ap (Ts := fun U => U = 41) HN1.out.buf ha7 rfl; have HX7 := Lib.hid (hk7.blk HX1.out (by decide)); have HL7 := Lib.hid (nbuf_ke HL1.out hk7 hn7.below (by decide)); have HN7 := Lib.hid hn7; have f7 := HX7.out.free 1; obtain ⟨_, q1⟩ := HX7.out.c2; clear hk7 ha7 hn7; obtain ⟨nA, nc, rfl, hnc⟩ := HN7.out.buf.shape)
      have HN8 := Lib.hid (HN7.out.set_ne HX7.out (by decide) HXw.out 1 (.slice nA (k + 1) nc))
      have HL8 := Lib.hid (HL7.out.set_ne HX7.out (by decide) HXw.out 1 (.slice nA (k + 1) nc))
      have HX8 := Lib.hid (show Blk _ X 94 #[.slice lA L.length lc, .slice nA (k + 1) nc] by simpa using HX7.out.set 1 (.slice nA (k + 1) nc))
      clear HN7 HL7 HX7 f7 q1 HX1 HN1 HL1
      go_roundw
      case rel =>
        refine ⟨k + 1, .slice nA (k + 1) nc, by go_num, hgo, HX8, Lib.hid ?_, HL8⟩
        have h8 := HN8.out
        rw [longS_succ, smc_append, ← HT.out, ← HM3.out]
        exact h8
      case measure => simp [intOf]; omega
    · obtain rfl : k = n := by omega
      have hn := nbuf_lit (W := w) (w := wr) HS.out.below 94 2 1 [.slice lA L.length lc, .slice sA k sc] rfl (by decide)
      have HN := Lib.hid hn
      clear hn
      go_wp2_with fail
      go_ret
      have hb := below_al wr (.cells #[.slice lA L.length lc, .slice sA k sc] 94)
      refine ⟨_, [⟨L, longS k st, lA, lc, sA, sc⟩], rfl, ⟨?_, fun x hx => ?_⟩, ?_⟩
      · have h8 := HN.out
        show NBuf _ _ _ _ _ 1 [.slice lA L.length lc, .slice sA (longS k st).length sc]
        rw [longS_len]
        exact h8
      · obtain rfl := List.mem_singleton.1 hx
        refine ⟨(HLR.out.then_below hb).slice, ?_⟩
        have h8 := (HS.out.then_below hb).slice
        show SmsAt _ (.slice sA (longS k st).length sc) (longS k st)
        unfold SmsAt
        rw [longS_len]
        exact h8
      · rw [HL.out]; rfl

theorem bCh_one (L : List Pr) (S : List Sm) : bCh [(L, S)] = chB S := by simp [bCh]

set_option maxHeartbeats 16000000 in
set_option maxRecDepth 10000 in
theorem awake16_any (w : World) (hW : WidthsAt w) : Calls Tryz.prog 14 #[] w (RetBelow w (.bool true)) := by
  have hs : SmallT 0 1000 (longT 121 5) := by
    have h := long_small (n := 121) (st := 5) (b := 2000) (by decide) (by decide) (by decide) (by decide)
    refine ⟨h.good, h.n, h.lab, h.ne, h.len, fun r hr y hy => ?_, h.v⟩
    obtain rfl := List.mem_singleton.1 hr
    obtain ⟨i, hi, rfl⟩ := longS_mem hy
    exact ⟨by show (0 : Int) ≤ ((i * 5 : Nat) : Int); omega, by show ((i * 5 : Nat) : Int) < _; omega⟩
  have hm : ∀ w, Calls Tryz.prog 30 #[.int .i64 1, .int .i64 1] w (RetBelow w (.tuple #[.string (bs (Idt.mk 1 1)), .int .i64 0])) := fun w => make_ok 1 1 w ⟨by decide, by decide⟩ ⟨by decide, by decide⟩
  have hl : ∀ w, Calls Tryz.prog 34 #[.int .i64 121, .int .i64 5] w (RetTb w 94 (longT 121 5)) := fun w => long_any 121 5 w (by decide) (by decide)
  obtain ⟨R, hR⟩ : ∃ R, R = longT 121 5 := ⟨_, rfl⟩
  have hR1 : ∃ L S, R = [(L, S)] ∧ S.length = 121 := ⟨_, _, hR, longS_len _ _⟩
  rw [← hR] at hs hl
  obtain ⟨I, hI⟩ : ∃ I, I = Idt.mk 1 1 := ⟨_, rfl⟩
  rw [← hI] at hm
  have hbu := fun tv T w hW hT he => built 1 1 1000 1 tv T R w hW hT he hs (by decide) (by decide) (by decide) (by decide) (by decide) (by decide)
  have hta := fun F fc S sc w hW hF => tabled 1 1 1000 1 R F fc S sc w hW hF hs (by decide) (by decide) (by decide) (by decide) (by decide) (by decide)
  have hen := fun w => entried 1000 R w hs (by decide)
  rw [← hI] at hbu hta
  unfold RetF bMt at hbu
  dsimp only at hbu
  unfold bMt at hta
  dsimp only at hta
  obtain ⟨C, hC⟩ : ∃ C, C = bCh R := ⟨_, rfl⟩
  obtain ⟨X, hX⟩ : ∃ X, X = idxB (bEn R 0) := ⟨_, rfl⟩
  rw [← hC, ← hX] at hbu hta
  rw [← hX] at hen
  have HR1 := Lib.hid hR1
  have HBU := Lib.hid hbu
  have HTA := Lib.hid hta
  have HEN := Lib.hid hen
  have HC := Lib.hid hC
  have HW := Lib.hid hW
  clear hs hR hR1 hI hbu hta hen hC hX hW
  go_enter Tryz.func14, Tryz.ntmps14
  go_wp2_with fail
  refine (hm _).mono ?_
  rintro e w1 ⟨rfl, hb1⟩
  have HB1 := Lib.hid hb1
  clear hb1 hm
  go_wp2_with fail
  refine (hl _).mono ?_
  rintro e w2 ⟨v2, t2, rfl, ht2, he2⟩
  have HB2 := Lib.hid (below_trans HB1.out ht2.1.below)
  have hb3 := HBU.out v2 t2 w2 (HW.out.below HB2.out) ht2.tb he2
  have HB3 := Lib.hid hb3
  clear hb3 ht2 he2 HBU hl HB1
  go_wp2_with fail
  refine HB3.out.mono ?_
  rintro e w3 ⟨F, fc, S, sc, rfl, hf, hb⟩
  have HB4 := Lib.hid (below_trans HB2.out hb)
  have HF := Lib.hid hf
  clear hf hb HB3 HB2
  go_upto_region 3 with fail
  obtain ⟨wz, hwz⟩ : ∃ wz, wz = w3.alloc (.cells #[.string (bs I), .int .i64 0, .int .i64 1000, .int .i64 1, .int .i64 (R.length : Nat), .int .i64 (cntR R : Nat), .slice F 2 fc, .slice S 0 sc, .string (bs C), .string (bs X)] 64) := ⟨_, rfl⟩
  have X1 : Hid (Blk wz w3.heap.size 64 #[.string (bs I), .int .i64 0, .int .i64 1000, .int .i64 1, .int .i64 (R.length : Nat), .int .i64 (cntR R : Nat), .slice F 2 fc, .slice S 0 sc, .string (bs C), .string (bs X)]) := Lib.hid (by rw [hwz]; exact Blk.new _ _ _)
  have b1 : Below w3.heap.size w3 wz := by rw [hwz]; exact below_al _ _
  obtain ⟨Q, hQ⟩ : ∃ Q, Q = w3.heap.size := ⟨_, rfl⟩
  have HB5 := Lib.hid (below_trans HB4.out b1)
  have HF5 := Lib.hid (HF.out.below b1)
  rw [← hwz, ← hQ]
  rw [← hQ] at X1
  clear hwz hQ b1 HB4 HF
  obtain ⟨k0, k1, k2, k3, k4, k5, k6, k7, k8, k9⟩ := X1.out.c10
  go_wp2_with fail
  refine (HEN.out _).mono ?_
  rintro e w6 ⟨v6, es, rfl, hes, hpl⟩
  have HB6 := Lib.hid (below_trans HB5.out hes.n.below)
  have HF6 := Lib.hid (HF5.out.below hes.n.below)
  have X6 := Lib.hid (X1.out.below hes.n.below)
  have HES := Lib.hid hes
  have HPL := Lib.hid hpl
  clear hes hpl HB5 HF5 X1 k0 k1 k2 k3 k4 k5 k6 k7 k8 k9 HEN
  obtain ⟨k0, k1, k2, k3, k4, k5, k6, k7, k8, k9⟩ := X6.out.c10
  have hta := HTA.out F fc S sc w6 (HW.out.below HB6.out) HF6.out
  have HT := Lib.hid hta
  clear hta HTA HF6
  go_wp2_with fail
  refine HT.out.mono ?_
  rintro e w7 ⟨v7, t7, rfl, ht7, he7⟩
  have HB7 := Lib.hid (below_trans HB6.out ht7.1.below)
  have X7 := Lib.hid (X6.out.below ht7.1.below)
  have HES7 := Lib.hid (HES.out.below ht7.1.below)
  obtain ⟨L, S2, hR, hSl⟩ := HR1.out
  have hpl := HPL.out
  rw [hR] at hpl he7
  obtain ⟨⟨ls, la, lc, fr, n, mn, mx⟩, rfl⟩ : ∃ x, es = [x] := by
    match es, congrArg List.length hpl with
    | [x], _ => exact ⟨x, rfl⟩
  obtain ⟨⟨rl, rs, ra, rc, sa, sc2⟩, rfl⟩ : ∃ x, t7 = [x] := by
    match t7, congrArg List.length he7 with
    | [x], _ => exact ⟨x, rfl⟩
  have hn : n = (C.length : Int) := by
    have h1 : (⟨ls, fr, n, mn, mx⟩ : En) = ⟨L, 0, ((chB S2).length : Nat), first S2, last S2⟩ := by injection hpl
    rw [HC.out, hR, bCh_one]
    exact congrArg En.n h1
  have hrs : rs.length = 121 := by
    have h1 : (rl, rs) = (L, S2) := by injection he7
    rw [(Prod.mk.inj h1).2]; exact hSl
  have hcn : cntR R = 121 := by rw [hR]; show cntR ([] ++ [(L, S2)]) = _; rw [cntR_snoc]; show 0 + S2.length = _; omega
  obtain ⟨oA, oc, rfl, hoc⟩ := HES7.out.n.buf.shape
  obtain ⟨tA, tc, rfl, htc⟩ := ht7.1.buf.shape
  obtain ⟨eb, eo, rfl, _, _, _, _, g2, _, _⟩ := (HES7.out.at_ (HES7.out.n.below)).at_ (i := 0) rfl
  obtain ⟨tb, to_, rfl, _, f1, _⟩ := ht7.tb.at_ (i := 0) rfl
  dsimp only at g2 f1
  subst hn
  rw [hrs] at f1
  rw [hcn] at X7
  obtain ⟨k0, k1, k2, k3, k4, k5, k6, k7, k8, k9⟩ := X7.out.c10
  clear ht7 hpl he7 hrs hcn hSl hR HC HPL HR1 HES X6 HB6 HT
  go_wp2_with fail
  go_quiet (fail)
  go_wp2_with fail
  go_ret
  exact ⟨rfl, below_trans HB7.out (below_draws _ _)⟩
end Go.Proofs.YtgabmfibfikdbaaGreatDoor

/-
  Layer 16: what the laws' frames take.
-/
namespace Go.Proofs.YtgabmfibfikdbaaGreatDoor
open Go.RowKit Go.Bar Go.Bar.Xor Go.ChangeShapes Go.WideShapes Go.ChangeAt Go.Deep

theorem law_own : ownKnob Tryz.prog.godebug = none := by kernel_rfl
theorem law_laid : laidOutB Tryz.prog = true := by kernel_rfl
theorem g_widths : Tryz.prog.globalNamed "barograph/xor.widths" = some 1 := by kernel_rfl
theorem t_widths : (Tryz.prog.globals[1]?).map (·.type) = some 230 := by kernel_rfl
set_option maxRecDepth 100000 in
theorem of_laid {W : World} (h : laidMetH Tryz.prog [("barograph/xor.widths", Rows.laid_barograph_xor_widths), ("unicode/utf8.acceptRanges", Rows.laid_unicode_utf8_acceptRanges), ("unicode/utf8.first", Rows.laid_unicode_utf8_first)] W) : WidthsAt W := by
  rw [MakeChecks.laidMetH_plain _ _ _ (by kernel_rfl)] at h
  obtain ⟨ps, ⟨g0, t0, cs0, f0, p0, q0, hg0, ht0, hv0, hd0, _, _⟩, _, _⟩ := h
  obtain rfl := Option.some.inj (g_widths.symm.trans hg0)
  obtain rfl := Option.some.inj (t_widths.symm.trans ht0)
  obtain ⟨xs, m1, rfl, hx1, hlen, hn3, hel⟩ := DataW.trod_array Tryz.underlying230 hd0
  have c3 : Tryz.prog.cellsOf 3 = 1 := by kernel_rfl
  have c94 : Tryz.prog.cellsOf 230 = 5 := by kernel_rfl
  rw [c94] at hlen
  obtain ⟨l, hcs⟩ : ∃ l, cs0.toList = l := ⟨_, rfl⟩
  rw [hcs] at hlen hel
  simp only [Prod.mk.injEq] at hx1
  have hx := hx1.1
  match xs, hn3, hx, hel with
  | [x0, x1, x2, x3, x4], _, hx, hel =>
    match l, hlen, hcs, hel with
    | [a0, a1, a2, a3, a4], _, hcs, hel =>
      simp only [Rows.laid_barograph_xor_widths, DataW.agg.injEq, List.map_cons, List.map_nil, List.cons.injEq, and_true] at hx
      obtain ⟨y0, y1, y2, y3, y4⟩ := hx
      have hcell : ∀ i, W.cell? ⟨1, i, none⟩ = [a0, a1, a2, a3, a4][i]? := fun i => by
        have := World.var?_cell hg0 hv0 i
        rw [← hcs, Array.getElem?_toList]
        exact this
      have h0 := hel 0 (by decide)
      have h1 := hel 1 (by decide)
      have h2 := hel 2 (by decide)
      have h3 := hel 3 (by decide)
      have h4 := hel 4 (by decide)
      rw [c3] at h0 h1 h2 h3 h4
      have val : ∀ (a : Value) (x : DataW Unit × List MemPlace) (k : Int), DataW.trod (fun _ => ()) Tryz.prog W 0 (fun _ => true) false m1 3 [a] = some x → DataW.lit (.int .i64 k) = x.1 → a = .int .i64 k := fun a x k hd hk => by
        obtain ⟨z, e1, e2, _⟩ := DataW.trod_int Tryz.underlying3 hd
        rw [e2] at hk
        simp only [DataW.lit.injEq, Lit.int.injEq, true_and] at hk
        subst hk
        simpa using e1
      refine ⟨fun k hk => ?_⟩
      rw [hcell]
      rcases (show k = 0 ∨ k = 1 ∨ k = 2 ∨ k = 3 ∨ k = 4 by omega) with rfl | rfl | rfl | rfl | rfl
      · exact congrArg some (val a0 x0 0 h0 y0)
      · exact congrArg some (val a1 x1 7 h1 y1)
      · exact congrArg some (val a2 x2 12 h2 y2)
      · exact congrArg some (val a3 x3 20 h3 y3)
      · exact congrArg some (val a4 x4 64 h4 y4)

theorem door_met (os : Os) (args : Array Value) : laidMetH Tryz.prog [("barograph/xor.widths", Rows.laid_barograph_xor_widths), ("unicode/utf8.acceptRanges", Rows.laid_unicode_utf8_acceptRanges), ("unicode/utf8.first", Rows.laid_unicode_utf8_first)] ((World.laidAll Tryz.prog os [("barograph/xor.widths", Rows.laid_barograph_xor_widths), ("unicode/utf8.acceptRanges", Rows.laid_unicode_utf8_acceptRanges), ("unicode/utf8.first", Rows.laid_unicode_utf8_first)]).forCall (fun _ _ => 0) ⟨#[], args, []⟩).memory := by
  rw [MakeChecks.laidMetH_plain _ _ _ (by kernel_rfl)]; exact laidMet_laidAll _ (by kernel_rfl) (by kernel_rfl)

end Go.Proofs.YtgabmfibfikdbaaGreatDoor

/-
  Layer 6: the walk of the reference's Sorted.
-/
namespace Go.Proofs.YtgabmfibfikdbaaGreatDoor
open Go.RowKit Go.Bar Go.Bar.Leb Go.Bar.Lab

def InsS (p : Pr) (acc : List Pr) (j : Nat) (dn : Bool) (ys : List Pr) : Prop :=
  match dn with
  | true => ys = ins p (acc.take j) ∧ ∃ q ∈ acc.take j, p.1 < q.1
  | false => ys = acc.take j ∧ ∀ q ∈ acc.take j, ¬ p.1 < q.1
section
variable {p q : Pr} {acc ys : List Pr} {j : Nat}
theorem InsS.start : InsS p acc 0 false [] := ⟨by simp, by simp⟩
theorem take_snoc' (hq : acc[j]? = some q) : acc.take (j + 1) = acc.take j ++ [q] := by rw [List.take_add_one, hq]; rfl
theorem InsS.on (h : InsS p acc j true ys) (hq : acc[j]? = some q) : InsS p acc (j + 1) true (ys ++ [q]) := by
  obtain ⟨rfl, x, hx, hlt⟩ := h
  refine ⟨?_, x, by rw [take_snoc' hq]; exact List.mem_append_left _ hx, hlt⟩
  rw [take_snoc' hq, ins_done p _ _ ⟨x, hx, hlt⟩]
end

end Go.Proofs.YtgabmfibfikdbaaGreatDoor

/-
  Layer 6: the walk of the reference's Take.
-/
namespace Go.Proofs.YtgabmfibfikdbaaGreatDoor
open Go.RowKit Go.Bar Go.Bar.Leb Go.Bar.Lab

def RetRTk (w : World) (s : List UInt8) (e : Ending) (w' : World) : Prop :=
  ∃ v l r c, Lab.take s = (l, r, c) ∧ e = .returned (.tuple #[v, .string (bs r), .int .i64 (c : Nat)]) ∧ NBuf w w' 146 2 v l.length (pcs l)

set_option maxHeartbeats 8000000 in
set_option maxRecDepth 10000 in
theorem rtake_any (s : List UInt8) (w : World) (hs : s.length ≤ 1000000000000) :
    Calls Tryz.prog 81 #[.string (bs s)] w (RetRTk w s) := by
  obtain ⟨n, r, e, hm⟩ : ∃ n r e, takeMost s 8 = (n, r, e) := ⟨_, _, _, rfl⟩
  have hp := takeMost_prop s 8 (by omega)
  rw [hm] at hp
  simp only at hp
  have hrl : r.length ≤ s.length := hp.2.1
  have HM := Lib.hid (refTakeMost_of (bs s) 8 hm)
  by_cases he : e = 0
  · subst he
    have hn8 : n ≤ 8 := takeMost_le8 hm
    obtain ⟨s0, hs0⟩ : ∃ s0, s0 = (if (tp n r).2.2 ≠ 0 then (([], [], (tp n r).2.2) : List Pr × List UInt8 × Nat) else ((tp n r).1, (tp n r).2.1, 0)) := ⟨_, rfl⟩
    have htk : Lab.take s = if s0.2.2 ≠ 0 then ([], [], s0.2.2) else if chk s0.1 = true then s0 else ([], [], 3) := by
      unfold Lab.take
      rw [hm]
      simp only
      rw [if_neg (by simp)]
      by_cases h2 : (tp n r).2.2 = 0
      · rw [if_neg (by simp [h2])] at hs0
        subst hs0
        simp [h2]
      · rw [if_pos h2] at hs0
        subst hs0
        simp [h2]
    have hst : TkS s0 n r 0 [] := by
      unfold TkS
      rw [if_pos rfl, hs0]
      rfl
    have HTK := Lib.hid htk
    have HST := Lib.hid hst
    have HN0 := Lib.hid (fun q => (NBuf.lit0 (below_draws w q) 146 2))
    clear hm hp htk hst hs0
    go_enter Tryz.func81, Tryz.ntmps81
    go_wp2_with fail
    refine (HM.out _ (by rw [bs_size]; unfold maxLen; omega) (by omega) (by omega)).mono ?_
    rintro e' w1 ⟨rfl, q, rfl⟩
    go_wp2_with fail
    go_loopw [8, 0, 7] (fun a b d wr => ∃ (k : Nat) (s' : List UInt8) (ps : List Pr), k ≤ n ∧ a = .int .i64 k ∧ b = .string (bs s') ∧ Hid (ps.length = k) ∧ s'.length ≤ s.length ∧ Hid (NBuf w wr 146 2 d k (pcs ps)) ∧ Hid (TkS s0 (n - k) s' 0 ps) ∧ Hid (∀ p ∈ ps, p.1.length ≤ s.length)) (fun a _ _ _ => n - (intOf a).toNat)
    case atStart => exact ⟨0, r, [], Nat.zero_le _, rfl, rfl, Lib.hid rfl, hrl, Lib.hid (HN0.out _), HST, Lib.hid (by simp)⟩
    case round =>
      clear HST hrl HN0
      obtain ⟨k, s', ps, hk, rfl, rfl, hps, hsl, hnb, hts, hpl⟩ := hrel
      obtain ⟨A, c, rfl, hc⟩ := hnb.out.buf.shape
      by_cases hgo : k < n
      · obtain ⟨x, s1, e1, h1⟩ : ∃ a b c, takeText s' 40 = (a, b, c) := ⟨_, _, _, rfl⟩
        obtain ⟨y, s2, e2, h2⟩ : ∃ a b c, takeText s1 40 = (a, b, c) := ⟨_, _, _, rfl⟩
        have hl1 := takeText_len (by omega) h1
        have hl2 := takeText_len (by omega) h2
        have T1 := Lib.hid (refTakeText_of (bs s') 40 h1)
        have T2 := Lib.hid (refTakeText_of (bs s1) 40 h2)
        have hd : decide ((k : Int) < (n : Int)) = true := decide_eq_true (by omega)
        have hts1 := hts.out
        rw [show n - k = (n - (k + 1)) + 1 by omega] at hts1
        by_cases he1 : e1 = 0
        · subst he1
          by_cases he2 : e2 = 0
          · subst he2
            have HT2 := Lib.hid (hts1.step h1 h2)
            clear h1 h2 hts1
            go_wp2_with fail
            refine (T1.out _ (by rw [bs_size]; unfold maxLen; omega) (by omega) (by omega)).mono ?_
            rintro e' w2 ⟨rfl, q1, rfl⟩
            go_wp2_with fail
            refine (T2.out _ (by rw [bs_size]; unfold maxLen; omega) (by omega) (by omega)).mono ?_
            rintro e' w2 ⟨rfl, q2, rfl⟩
            have HN3 := Lib.hid (hnb.out.drewN (q1 + q2))
            go_wp2_with (at_builtin; refine wpList_append_nlit rfl (.tmp 49) (.tmp 53) 60 rfl rpair_ty rfl HN3.out rfl (by simp) rfl (by simp [Value.oneCell']) (by simp only [maxLen]; omega) (by omega) ?_; intro v3 w3 hn3 _; have HN4 := Lib.hid hn3; clear hn3 HN3)
            go_roundw
            case rel => exact ⟨k + 1, s2, ps ++ [(x, y)], by omega, by go_num, rfl, Lib.hid (by simp [hps.out]), by omega, by rw [pcs_snoc]; exact HN4, HT2, Lib.hid (fun p hp => by rw [List.mem_append, List.mem_singleton] at hp; rcases hp with hp | rfl; exact hpl.out p hp; exact Nat.le_trans hl1.1 hsl)⟩
            case measure => simp [intOf]; try omega
          · have HTK2 := Lib.hid (show Lab.take s = ([], [], e2) by rw [HTK.out, hts1.bad2 h1 h2 he2]; simp [he2])
            have hb : ((e2 : Int) != 0) = true := by rw [bne_iff_ne]; omega
            clear h1 h2 hts1 he2
            go_wp2_with fail
            refine (T1.out _ (by rw [bs_size]; unfold maxLen; omega) (by omega) (by omega)).mono ?_
            rintro e' w2 ⟨rfl, q1, rfl⟩
            go_wp2_with fail
            refine (T2.out _ (by rw [bs_size]; unfold maxLen; omega) (by omega) (by omega)).mono ?_
            rintro e' w2 ⟨rfl, q2, rfl⟩
            go_wp2_with fail
            go_ret3
            exact ⟨_, _, _, _, HTK2.out, rfl, NBuf.nil (hnb.out.drewN (q1 + q2)).below _ _⟩
        · have HTK2 := Lib.hid (show Lab.take s = ([], [], e1) by rw [HTK.out, hts1.bad1 h1 he1]; simp [he1])
          have hb : ((e1 : Int) != 0) = true := by rw [bne_iff_ne]; omega
          clear h1 h2 hts1 he1
          go_wp2_with fail
          refine (T1.out _ (by rw [bs_size]; unfold maxLen; omega) (by omega) (by omega)).mono ?_
          rintro e' w2 ⟨rfl, q1, rfl⟩
          go_wp2_with fail
          go_ret3
          exact ⟨_, _, _, _, HTK2.out, rfl, NBuf.nil (hnb.out.drewN q1).below _ _⟩
      · obtain rfl : k = n := by omega
        have hts1 := hts.out
        rw [Nat.sub_self] at hts1
        have hs0 := hts1.end_
        obtain rfl : k = ps.length := hps.out.symm
        have hlk := rcheck_any6 _ ps wr hnb.out.slice (fun p hp => by have := hpl.out p hp; omega)
        by_cases hck : chk ps = true
        · have HTK2 := Lib.hid (show Lab.take s = (ps, s', 0) by rw [HTK.out, hs0]; simp [hck])
          rw [hck] at hlk
          have HK := Lib.hid hlk
          clear hs0 hlk hck hts1 hgo
          go_wp2_with fail
          refine HK.out.mono ?_
          rintro e w2 ⟨rfl, hb⟩
          have HN4 := Lib.hid (hnb.out.then_below hb)
          clear hb
          go_wp2_with fail
          go_ret3
          exact ⟨_, _, _, _, HTK2.out, rfl, HN4.out⟩
        · have HTK2 := Lib.hid (show Lab.take s = ([], [], 3) by rw [HTK.out, hs0]; simp [hck])
          rw [show chk ps = false by simpa using hck] at hlk
          have HK := Lib.hid hlk
          clear hs0 hlk hck hts1 hgo
          go_wp2_with fail
          refine HK.out.mono ?_
          rintro e w2 ⟨rfl, hb⟩
          have HN4 := Lib.hid (hnb.out.then_below hb)
          clear hb
          go_wp2_with fail
          go_ret3
          exact ⟨_, _, _, _, HTK2.out, rfl, NBuf.nil HN4.out.below _ _⟩
  · have htk2 : Lab.take s = ([], [], e) := by unfold Lab.take; rw [hm]; simp [he]
    have HTK2 := Lib.hid htk2
    have hb : ((e : Int) == 0) = false := by rw [beq_eq_false_iff_ne]; omega
    have hb2 : ((e : Int) != 0) = true := by rw [bne_iff_ne]; omega
    have HN0 := Lib.hid (fun q => (NBuf.lit0 (below_draws w q) 146 2))
    clear htk2 he hp hm hrl
    rcases n with _ | n
    · go_enter Tryz.func81, Tryz.ntmps81
      go_wp2_with fail
      refine (HM.out _ (by rw [bs_size]; unfold maxLen; omega) (by omega) (by omega)).mono ?_
      rintro e' w1 ⟨rfl, q, rfl⟩
      go_wp2_with fail
      go_loopw [8] (fun a wr => a = .int .i64 (0 : Nat) ∧ Hid (Below w.heap.size w wr)) (fun _ _ => 0)
      case atStart => exact ⟨rfl, Lib.hid (HN0.out q).below⟩
      case round =>
        obtain ⟨rfl, hbl⟩ := hrel
        go_wp2_with fail
        go_ret3
        exact ⟨_, _, _, _, HTK2.out, rfl, NBuf.nil hbl.out _ _⟩
    · have h0 : decide (0 < ((n : Int) + 1)) = true := decide_eq_true (by omega)
      go_enter Tryz.func81, Tryz.ntmps81
      go_wp2_with fail
      refine (HM.out _ (by rw [bs_size]; unfold maxLen; omega) (by omega) (by omega)).mono ?_
      rintro e' w1 ⟨rfl, q, rfl⟩
      go_wp2_with fail
      go_loopw [8] (fun a wr => a = .int .i64 (0 : Nat) ∧ Hid (Below w.heap.size w wr)) (fun _ _ => 0)
      case atStart => exact ⟨rfl, Lib.hid (HN0.out q).below⟩
      case round =>
        obtain ⟨rfl, hbl⟩ := hrel
        go_wp2_with fail
        go_ret3
        exact ⟨_, _, _, _, HTK2.out, rfl, NBuf.nil hbl.out _ _⟩

end Go.Proofs.YtgabmfibfikdbaaGreatDoor

/-
  Layer 16: the walk of the reference's entry.
-/
namespace Go.Proofs.YtgabmfibfikdbaaGreatDoor
open Go.RowKit Go.Bar Go.Bar.Leb Go.Bar.Lab Go.Bar.Xor Go.Bar.Mrg Go.Bar.Met Go.Bar.Bok

theorem nint_ty : ElemTy Tryz.prog 171 3 (.int .i64 0) 1 8 :=
  ⟨Tryz.underlying171, info_parts (show (Tryz.prog.info? 3).map (fun i => (i.zero, i.size, i.bytes)) = some (some (.int .i64 0), 1, 8) by kernel_rfl), rfl⟩
def nvs (ns : List Nat) : List Value := ns.map fun n => .int .i64 (n : Nat)
theorem nvs_snoc (ns : List Nat) (q : Nat) : nvs (ns ++ [q]) = nvs ns ++ [.int .i64 (q : Nat)] := by unfold nvs; rw [List.map_append]; rfl
theorem mosts_at {k : Nat} (h : k < 4) : mosts.drop k = (if k ≤ 1 then 1048576 else 1099511627776) :: mosts.drop (k + 1) := by
  rcases (show k = 0 ∨ k = 1 ∨ k = 2 ∨ k = 3 by omega) with rfl | rfl | rfl | rfl <;> rfl

set_option maxHeartbeats 16000000 in
set_option maxRecDepth 10000 in
theorem rentry_any (s : List UInt8) (w : World) (hs : s.length ≤ 1000000000000) :
    Calls Tryz.prog 41 #[.string (bs s)] w (RetE 146 w (tEn s)) := by
  have htk := fun w => rtake_any s w hs
  have hsl := take_le s
  obtain ⟨R, hR⟩ : ∃ R, R = tEn s := ⟨_, rfl⟩
  rw [← hR]
  have HR := Lib.hid hR
  have HTK := Lib.hid htk
  clear htk hR
  have X1 := Blk.new w #[.slice none 0 0, .int .i64 0, .int .i64 0, .int .i64 0, .int .i64 0] 114
  have Y1 := Blk.new (w.alloc (.cells #[.slice none 0 0, .int .i64 0, .int .i64 0, .int .i64 0, .int .i64 0] 114)) #[.slice none 0 0, .int .i64 0, .int .i64 0, .int .i64 0, .int .i64 0] 114
  have b1 := below_trans (below_al w (.cells #[.slice none 0 0, .int .i64 0, .int .i64 0, .int .i64 0, .int .i64 0] 114)) (below_al _ (.cells #[.slice none 0 0, .int .i64 0, .int .i64 0, .int .i64 0, .int .i64 0] 114))
  have X1 := X1.alloc (.cells #[.slice none 0 0, .int .i64 0, .int .i64 0, .int .i64 0, .int .i64 0] 114)
  rw [show (w.alloc (.cells #[.slice none 0 0, .int .i64 0, .int .i64 0, .int .i64 0, .int .i64 0] 114)).heap.size = w.heap.size + 1 by simp] at Y1
  go_enter Tryz.func41, Tryz.ntmps41
  go_upto_region 2 with fail
  go_wp2_with fail
  refine (HTK.out _).mono ?_
  rintro e w2 ⟨v, l, r, c, htk, rfl, hnb⟩
  have X2 := X1.below hnb.below
  have Y2 := Y1.below hnb.below
  have hb2 := below_trans b1 hnb.below
  have hn2 := hnb.after b1
  obtain ⟨X, hX⟩ : ∃ X, X = w.heap.size := ⟨_, rfl⟩
  rw [← hX] at X2 Y2 ⊢
  have hXw : w.heap.size ≤ X := by omega
  have hYw : w.heap.size ≤ X + 1 := by omega
  rw [htk] at hsl
  dsimp only at hsl
  clear X1 Y1 b1 hnb HTK hX
  obtain ⟨vA, vc, rfl, hvc⟩ := hn2.buf.shape
  by_cases hc : c = 0
  · subst hc
    have hbad : ∀ e2 : Nat, 0 < e2 → tN mosts r = ([], [], e2) → R = (En.z, [], e2) := fun e2 he hg => by
      rw [HR.out]
      unfold tEn
      rw [htk]
      simp only
      rw [if_neg (by omega), hg]
      simp only
      rw [if_pos (by omega)]
    have HBAD := Lib.hid hbad
    have hgood : ∀ (ns : List Nat) (r' : List UInt8), tN mosts r = (ns, r', 0) → R = if ns.getD 1 0 = 0 ∨ ns.getD 3 0 < ns.getD 2 0 then (En.z, [], 3) else (⟨l, ns.getD 0 0, ns.getD 1 0, ns.getD 2 0, ns.getD 3 0⟩, r', 0) := fun ns r' hg => by
      rw [HR.out]
      unfold tEn
      rw [htk]
      simp only
      rw [if_neg (by omega), hg]
      simp
    have HGOOD := Lib.hid hgood
    have HX2 := Lib.hid X2
    have HY2 := Lib.hid Y2
    have HL2 := Lib.hid hn2
    have HN2 := Lib.hid (NBuf.nil hb2 3 1)
    clear htk hbad hgood X2 Y2 hb2
    obtain ⟨NB, hNB⟩ : ∃ NB, NB = w2.heap.size := ⟨_, rfl⟩
    have HN3 := Lib.hid (NBuf.lit0 hn2.below 3 1)
    have hlit := below_al w2 (.cells #[] 3)
    have HX3 := Lib.hid (HX2.out.below hlit)
    have HY3 := Lib.hid (HY2.out.below hlit)
    have HL3 := Lib.hid (HL2.out.then_below hlit)
    go_upto_region 7 with fail
    obtain ⟨w3, hw3⟩ : ∃ w3, w3 = w2.alloc (.cells #[] 3) := ⟨_, rfl⟩
    rw [← hw3, ← hNB] at HN3
    rw [← hw3] at HX3 HY3 HL3
    rw [← hw3, ← hNB]
    clear hw3 HX2 HY2 HL2 HN2 hn2 hlit hNB
    go_loopw [10, 7, 9] (fun i sv nv wr => ∃ (k : Nat) (ns : List Nat) (r' : List UInt8), i = .int .i64 k ∧ k ≤ 4 ∧ Hid (ns.length = k) ∧ sv = .string (bs r') ∧ r'.length ≤ r.length ∧ Hid (NBuf w wr 3 1 nv k (nvs ns)) ∧ Hid (Blk wr X 114 #[.slice none 0 0, .int .i64 0, .int .i64 0, .int .i64 0, .int .i64 0]) ∧
      Hid (Blk wr (X + 1) 114 #[.slice none 0 0, .int .i64 0, .int .i64 0, .int .i64 0, .int .i64 0]) ∧ Hid (NBuf w wr 146 2 (.slice vA l.length vc) l.length (pcs l)) ∧ Hid (tN mosts r = glue ns (tN (mosts.drop k) r'))) (fun i _ _ _ => 4 - (intOf i).toNat)
    case atStart => exact ⟨0, [], r, rfl, by omega, Lib.hid rfl, rfl, Nat.le_refl _, HN3, HX3, HY3, HL3, Lib.hid (by rw [List.drop_zero, glue_nil])⟩
    case round =>
      obtain ⟨k, ns, r', rfl, hk, HNS, rfl, hrl, HN4, HX4, HY4, HL4, HG⟩ := hrel
      clear HX3 HY3 HN3 HL3
      obtain ⟨nA, nc, rfl, hnc⟩ := HN4.out.buf.shape
      rcases (show k ≤ 1 ∨ (2 ≤ k ∧ k < 4) ∨ k = 4 by omega) with hka | hka | rfl
      · have hml : mosts.drop k = 1048576 :: mosts.drop (k + 1) := by rw [mosts_at (by omega), if_pos hka]
        have hk1 : ¬ (1 : Int) < (k : Int) := by omega
        have hk2 : (k : Int) < 4 := by omega
        obtain ⟨q, r2, e2, htm⟩ : ∃ q r2 e2, takeMost r' 1048576 = (q, r2, e2) := ⟨_, _, _, rfl⟩
        have hpr := (takeMost_prop r' 1048576 (by omega)).2.1
        rw [htm] at hpr
        have htc := fun w => refTakeMost_of (bs r') 1048576 htm w (by rw [bs_size]; unfold maxLen; omega) (by omega) (by omega)
        have HTC := Lib.hid htc
        have hgl := HG.out
        rw [hml] at hgl
        have HGL := Lib.hid hgl
        have HTM := Lib.hid htm
        dsimp only at hpr
        clear htc hgl htm HG hml
        go_wp2_with fail
        refine (HTC.out _).mono ?_
        rintro e w5 ⟨rfl, q5, rfl⟩
        have X5 := Lib.hid (HX4.out.drewN q5)
        have Y5 := Lib.hid (HY4.out.drewN q5)
        have N5 := Lib.hid (HN4.out.drewN q5)
        have L5 := Lib.hid (HL4.out.drewN q5)
        clear HX4 HY4 HN4 HL4 HTC
        rcases Nat.eq_zero_or_pos e2 with he | he
        · subst he
          have hgs := glue_step (l := ns) (m := 1048576) (ms := mosts.drop (k + 1)) (s := r') (by rw [HTM.out])
          rw [HTM.out, ← HGL.out] at hgs
          have HGS := Lib.hid hgs
          clear hgs HGL HTM
          have hnb := N5.out
          go_wp2_with (at_builtin; refine wpList_append_nlit rfl (.tmp 44) (.tmp 46) 171 rfl nint_ty rfl hnb rfl (by simp) rfl (by simp [Value.oneCell']) (by simp only [maxLen]; omega) (by omega) ?_; intro v7 w7 hn7 ha7; have HAP := Lib.hid ha7; clear ha7)
          have hlit := below_al (wr.drewN q5) (.cells #[.int .i64 (q : Nat)] 3)
          have X6 := Lib.hid ((X5.out.below hlit).ap (hnb.buf.below hlit) HAP.out (by decide))
          have Y6 := Lib.hid ((Y5.out.below hlit).ap (hnb.buf.below hlit) HAP.out (by decide))
          have L6 := Lib.hid ((L5.out.then_below hlit).keep (hnb.then_below hlit) HAP.out (by decide))
          have N6 : Hid (NBuf w w7 3 1 v7 (k + 1) (nvs (ns ++ [q]))) := Lib.hid (by rw [nvs_snoc]; exact hn7)
          clear hn7 HAP hnb hlit
          go_roundw
          case rel => exact ⟨k + 1, ns ++ [q], r2, by go_num, by omega, Lib.hid (by rw [List.length_append, HNS.out]; rfl), rfl, by omega, N6, X6, Y6, L6, HGS⟩
          case measure => simp [intOf]; omega
        · have hcz : ((e2 : Int) == 0) = false := by rw [beq_eq_false_iff_ne]; omega
          have hgb := glue_bad (l := ns) (m := 1048576) (ms := mosts.drop (k + 1)) (s := r') (by rw [HTM.out]; exact Nat.ne_of_gt he)
          rw [HTM.out, ← HGL.out] at hgb
          have HRES := Lib.hid (HBAD.out e2 he hgb)
          obtain ⟨x0, x1, x2, x3, x4⟩ := X5.out.c5
          obtain ⟨y0, y1, y2, y3, y4⟩ := Y5.out.c5
          have z0 := X5.out.free 0
          have z1 := X5.out.free 1
          have z2 := X5.out.free 2
          have z3 := X5.out.free 3
          have z4 := X5.out.free 4
          have HB := Lib.hid (((((L5.out.below.setCell hXw (.slice none 0 0) (p := ⟨X, 0, none⟩)).setCell hXw (.int .i64 0) (p := ⟨X, 1, none⟩)).setCell hXw (.int .i64 0) (p := ⟨X, 2, none⟩)).setCell hXw (.int .i64 0) (p := ⟨X, 3, none⟩)).setCell hXw (.int .i64 0) (p := ⟨X, 4, none⟩))
          clear hgb HGL HTM
          go_wp2_with fail
          refine bodyPost_ret (v := .tuple #[.agg #[.slice none 0 0, .int .i64 0, .int .i64 0, .int .i64 0, .int .i64 0], .string (bs []), .int .i64 (e2 : Nat)]) (by simp [results, Tryz.results41, go_sem, x0, x1, x2, x3, x4]; rfl) rfl ?_
          rw [HRES.out]
          exact RetE.no HB.out
      · have hml : mosts.drop k = 1099511627776 :: mosts.drop (k + 1) := by rw [mosts_at (by omega), if_neg (by omega)]
        have hk1 : (1 : Int) < (k : Int) := by omega
        have hk2 : (k : Int) < 4 := by omega
        obtain ⟨q, r2, e2, htm⟩ : ∃ q r2 e2, takeMost r' 1099511627776 = (q, r2, e2) := ⟨_, _, _, rfl⟩
        have hpr := (takeMost_prop r' 1099511627776 (by omega)).2.1
        rw [htm] at hpr
        have htc := fun w => refTakeMost_of (bs r') 1099511627776 htm w (by rw [bs_size]; unfold maxLen; omega) (by omega) (by omega)
        have HTC := Lib.hid htc
        have hgl := HG.out
        rw [hml] at hgl
        have HGL := Lib.hid hgl
        have HTM := Lib.hid htm
        dsimp only at hpr
        clear htc hgl htm HG hml
        go_wp2_with fail
        refine (HTC.out _).mono ?_
        rintro e w5 ⟨rfl, q5, rfl⟩
        have X5 := Lib.hid (HX4.out.drewN q5)
        have Y5 := Lib.hid (HY4.out.drewN q5)
        have N5 := Lib.hid (HN4.out.drewN q5)
        have L5 := Lib.hid (HL4.out.drewN q5)
        clear HX4 HY4 HN4 HL4 HTC
        rcases Nat.eq_zero_or_pos e2 with he | he
        · subst he
          have hgs := glue_step (l := ns) (m := 1099511627776) (ms := mosts.drop (k + 1)) (s := r') (by rw [HTM.out])
          rw [HTM.out, ← HGL.out] at hgs
          have HGS := Lib.hid hgs
          clear hgs HGL HTM
          have hnb := N5.out
          go_wp2_with (at_builtin; refine wpList_append_nlit rfl (.tmp 44) (.tmp 46) 171 rfl nint_ty rfl hnb rfl (by simp) rfl (by simp [Value.oneCell']) (by simp only [maxLen]; omega) (by omega) ?_; intro v7 w7 hn7 ha7; have HAP := Lib.hid ha7; clear ha7)
          have hlit := below_al (wr.drewN q5) (.cells #[.int .i64 (q : Nat)] 3)
          have X6 := Lib.hid ((X5.out.below hlit).ap (hnb.buf.below hlit) HAP.out (by decide))
          have Y6 := Lib.hid ((Y5.out.below hlit).ap (hnb.buf.below hlit) HAP.out (by decide))
          have L6 := Lib.hid ((L5.out.then_below hlit).keep (hnb.then_below hlit) HAP.out (by decide))
          have N6 : Hid (NBuf w w7 3 1 v7 (k + 1) (nvs (ns ++ [q]))) := Lib.hid (by rw [nvs_snoc]; exact hn7)
          clear hn7 HAP hnb hlit
          go_roundw
          case rel => exact ⟨k + 1, ns ++ [q], r2, by go_num, by omega, Lib.hid (by rw [List.length_append, HNS.out]; rfl), rfl, by omega, N6, X6, Y6, L6, HGS⟩
          case measure => simp [intOf]; omega
        · have hcz : ((e2 : Int) == 0) = false := by rw [beq_eq_false_iff_ne]; omega
          have hgb := glue_bad (l := ns) (m := 1099511627776) (ms := mosts.drop (k + 1)) (s := r') (by rw [HTM.out]; exact Nat.ne_of_gt he)
          rw [HTM.out, ← HGL.out] at hgb
          have HRES := Lib.hid (HBAD.out e2 he hgb)
          obtain ⟨x0, x1, x2, x3, x4⟩ := X5.out.c5
          obtain ⟨y0, y1, y2, y3, y4⟩ := Y5.out.c5
          have z0 := X5.out.free 0
          have z1 := X5.out.free 1
          have z2 := X5.out.free 2
          have z3 := X5.out.free 3
          have z4 := X5.out.free 4
          have HB := Lib.hid (((((L5.out.below.setCell hXw (.slice none 0 0) (p := ⟨X, 0, none⟩)).setCell hXw (.int .i64 0) (p := ⟨X, 1, none⟩)).setCell hXw (.int .i64 0) (p := ⟨X, 2, none⟩)).setCell hXw (.int .i64 0) (p := ⟨X, 3, none⟩)).setCell hXw (.int .i64 0) (p := ⟨X, 4, none⟩))
          clear hgb HGL HTM
          go_wp2_with fail
          refine bodyPost_ret (v := .tuple #[.agg #[.slice none 0 0, .int .i64 0, .int .i64 0, .int .i64 0, .int .i64 0], .string (bs []), .int .i64 (e2 : Nat)]) (by simp [results, Tryz.results41, go_sem, x0, x1, x2, x3, x4]; rfl) rfl ?_
          rw [HRES.out]
          exact RetE.no HB.out
      · obtain ⟨a, b, c, d, hns⟩ : ∃ a b c d, ns = [a, b, c, d] := by
          have h := HNS.out
          match ns, h with
          | [a, b, c, d], _ => exact ⟨a, b, c, d, rfl⟩
        subst hns
        have hRR : R = if b = 0 ∨ d < c then (En.z, [], 3) else (⟨l, (a : Nat), (b : Nat), (c : Nat), (d : Nat)⟩, r', 0) := HGOOD.out [a, b, c, d] r' (by rw [HG.out]; rfl)
        have HRR := Lib.hid hRR
        obtain ⟨nb, no, rfl, hnbw, hcl⟩ := HN4.out.slice.cells (by omega)
        have HC0 : Hid (∀ w', Below wr.heap.size wr w' → w'.cell? ⟨nb, no, none⟩ = some (.int .i64 (a : Nat))) := Lib.hid fun w' hb => (Below.cell hb hnbw).trans (hcl 0 _ rfl)
        have HC1 : Hid (∀ w', Below wr.heap.size wr w' → w'.cell? ⟨nb, no + 1, none⟩ = some (.int .i64 (b : Nat))) := Lib.hid fun w' hb => (Below.cell hb hnbw).trans (hcl 1 _ rfl)
        have HC2 : Hid (∀ w', Below wr.heap.size wr w' → w'.cell? ⟨nb, no + 2, none⟩ = some (.int .i64 (c : Nat))) := Lib.hid fun w' hb => (Below.cell hb hnbw).trans (hcl 2 _ rfl)
        have HC3 : Hid (∀ w', Below wr.heap.size wr w' → w'.cell? ⟨nb, no + 3, none⟩ = some (.int .i64 (d : Nat))) := Lib.hid fun w' hb => (Below.cell hb hnbw).trans (hcl 3 _ rfl)
        clear hRR hcl HG HGOOD HBAD
        go_upto_region 17 with fail
        by_cases hb0 : b = 0
        · subst hb0
          have hRR := HRR.out
          rw [if_pos (.inl rfl)] at hRR
          have HRES := Lib.hid hRR
          clear hRR HRR
          refine wp_region_known [(2, .int .i64 0)] (by kernel_rfl) 78 (by kernel_rfl) rfl ?_
          repeat (first
            | (refine Chain.step (v := ?_) (a' := ?_) rfl rfl rfl ?_ ?_ ?_; rotate_left 2; (focus (intro w; go_simp; try with_reducible rfl)); focus (simp only [Act.put, pqA, pqS, pqZ]; try rfl))
            | (refine Chain.call (i := 2) (a' := ?_) _ rfl rfl rfl (fun wx hw => ?_) ?_ ?_; rotate_left 1; (focus (have g0 := HC1.out _ hw); (go_simp); (first | exact ⟨rfl, rB⟩ | exact rB)); focus (simp only [Act.put, pqA, pqS, pqZ]; try rfl))
            | (refine Chain.skip (a' := ?_) rfl rfl rfl ?_ ?_; rotate_left 1; focus (simp only [Act.put, pqA, pqS, pqZ]; try rfl)))
          refine Chain.end_ (fun wy hwy _ => ?_)
          obtain ⟨x0, x1, x2, x3, x4⟩ := (HX4.out.below hwy).c5
          obtain ⟨y0, y1, y2, y3, y4⟩ := (HY4.out.below hwy).c5
          have XF := HX4.out.below hwy
          have z0 := XF.free 0
          have z1 := XF.free 1
          have z2 := XF.free 2
          have z3 := XF.free 3
          have z4 := XF.free 4
          have HB := Lib.hid ((((((HL4.out.then_below hwy).below.setCell hXw (.slice none 0 0) (p := ⟨X, 0, none⟩)).setCell hXw (.int .i64 0) (p := ⟨X, 1, none⟩)).setCell hXw (.int .i64 0) (p := ⟨X, 2, none⟩)).setCell hXw (.int .i64 0) (p := ⟨X, 3, none⟩)).setCell hXw (.int .i64 0) (p := ⟨X, 4, none⟩))
          clear XF
          go_wp2_with fail
          refine bodyPost_ret (v := .tuple #[.agg #[.slice none 0 0, .int .i64 0, .int .i64 0, .int .i64 0, .int .i64 0], .string (bs []), .int .i64 3]) (by simp [results, Tryz.results41, go_sem, x0, x1, x2, x3, x4]; rfl) rfl ?_
          rw [HRES.out]
          exact RetE.no HB.out
        · have hbz : ((b : Int) == 0) = false := by rw [beq_eq_false_iff_ne]; omega
          by_cases hcd : d < c
          · have hRR := HRR.out
            rw [if_pos (.inr hcd)] at hRR
            have hd : decide ((d : Int) < (c : Int)) = true := decide_eq_true (by omega)
            have hd2 : (d : Int) < (c : Int) := by omega
            have HRES := Lib.hid hRR
            clear hcd hb0 hRR HRR
            refine wp_region_known [(2, .int .i64 (b : Nat)), (7, .int .i64 (c : Nat)), (10, .int .i64 (d : Nat))] (by kernel_rfl) 78 (by kernel_rfl) rfl ?_
            repeat (first
              | (refine Chain.step (v := ?_) (a' := ?_) rfl rfl rfl ?_ ?_ ?_; rotate_left 2; (focus (intro w; go_simp; try with_reducible rfl)); focus (simp only [Act.put, pqA, pqS, pqZ]; try rfl))
              | (refine Chain.call (i := 2) (a' := ?_) _ rfl rfl rfl (fun wx hw => ?_) ?_ ?_; rotate_left 1; (focus (have g0 := HC1.out _ hw); (go_simp); (first | exact ⟨rfl, rB⟩ | exact rB)); focus (simp only [Act.put, pqA, pqS, pqZ]; try rfl))
              | (refine Chain.call (i := 7) (a' := ?_) _ rfl rfl rfl (fun wx hw => ?_) ?_ ?_; rotate_left 1; (focus (have g0 := HC2.out _ hw); (go_simp); (first | exact ⟨rfl, rB⟩ | exact rB)); focus (simp only [Act.put, pqA, pqS, pqZ]; try rfl))
              | (refine Chain.call (i := 10) (a' := ?_) _ rfl rfl rfl (fun wx hw => ?_) ?_ ?_; rotate_left 1; (focus (have g0 := HC3.out _ hw); (go_simp); (first | exact ⟨rfl, rB⟩ | exact rB)); focus (simp only [Act.put, pqA, pqS, pqZ]; try rfl))
              | (refine Chain.skip (a' := ?_) rfl rfl rfl ?_ ?_; rotate_left 1; focus (simp only [Act.put, pqA, pqS, pqZ]; try rfl)))
            refine Chain.end_ (fun wy hwy _ => ?_)
            obtain ⟨x0, x1, x2, x3, x4⟩ := (HX4.out.below hwy).c5
            obtain ⟨y0, y1, y2, y3, y4⟩ := (HY4.out.below hwy).c5
            have XF := HX4.out.below hwy
            have z0 := XF.free 0
            have z1 := XF.free 1
            have z2 := XF.free 2
            have z3 := XF.free 3
            have z4 := XF.free 4
            have HB := Lib.hid ((((((HL4.out.then_below hwy).below.setCell hXw (.slice none 0 0) (p := ⟨X, 0, none⟩)).setCell hXw (.int .i64 0) (p := ⟨X, 1, none⟩)).setCell hXw (.int .i64 0) (p := ⟨X, 2, none⟩)).setCell hXw (.int .i64 0) (p := ⟨X, 3, none⟩)).setCell hXw (.int .i64 0) (p := ⟨X, 4, none⟩))
            clear XF
            go_wp2_with fail
            refine bodyPost_ret (v := .tuple #[.agg #[.slice none 0 0, .int .i64 0, .int .i64 0, .int .i64 0, .int .i64 0], .string (bs []), .int .i64 3]) (by simp [results, Tryz.results41, go_sem, x0, x1, x2, x3, x4]; rfl) rfl ?_
            rw [HRES.out]
            exact RetE.no HB.out
          · have hRR := HRR.out
            rw [if_neg (by omega)] at hRR
            have hd : decide ((d : Int) < (c : Int)) = false := decide_eq_false (by omega)
            have hd2 : ¬ ((d : Int) < (c : Int)) := by omega
            have HRES := Lib.hid hRR
            clear hRR HRR
            refine wp_region_known [(2, .int .i64 (b : Nat)), (7, .int .i64 (c : Nat)), (10, .int .i64 (d : Nat))] (by kernel_rfl) 78 (by kernel_rfl) rfl ?_
            repeat (first
              | (refine Chain.step (v := ?_) (a' := ?_) rfl rfl rfl ?_ ?_ ?_; rotate_left 2; (focus (intro w; go_simp; try with_reducible rfl)); focus (simp only [Act.put, pqA, pqS, pqZ]; try rfl))
              | (refine Chain.call (i := 2) (a' := ?_) _ rfl rfl rfl (fun wx hw => ?_) ?_ ?_; rotate_left 1; (focus (have g0 := HC1.out _ hw); (go_simp); (first | exact ⟨rfl, rB⟩ | exact rB)); focus (simp only [Act.put, pqA, pqS, pqZ]; try rfl))
              | (refine Chain.call (i := 7) (a' := ?_) _ rfl rfl rfl (fun wx hw => ?_) ?_ ?_; rotate_left 1; (focus (have g0 := HC2.out _ hw); (go_simp); (first | exact ⟨rfl, rB⟩ | exact rB)); focus (simp only [Act.put, pqA, pqS, pqZ]; try rfl))
              | (refine Chain.call (i := 10) (a' := ?_) _ rfl rfl rfl (fun wx hw => ?_) ?_ ?_; rotate_left 1; (focus (have g0 := HC3.out _ hw); (go_simp); (first | exact ⟨rfl, rB⟩ | exact rB)); focus (simp only [Act.put, pqA, pqS, pqZ]; try rfl))
              | (refine Chain.skip (a' := ?_) rfl rfl rfl ?_ ?_; rotate_left 1; focus (simp only [Act.put, pqA, pqS, pqZ]; try rfl)))
            refine Chain.end_ (fun wy hwy _ => ?_)
            obtain ⟨x0, x1, x2, x3, x4⟩ := (HX4.out.below hwy).c5
            have X7 := HX4.out.below hwy
            have z0 := X7.free 0
            have z1 := X7.free 1
            have z2 := X7.free 2
            have z3 := X7.free 3
            have z4 := X7.free 4
            have u0 := HC0.out _ hwy
            have u1 := HC1.out _ hwy
            have u2 := HC2.out _ hwy
            have u3 := HC3.out _ hwy
            have HNF := Lib.hid ((((((HL4.out.then_below hwy).set_ne X7 (by decide) hXw 0 (.slice vA l.length vc)).set_ne (X7.set _ _) (by decide) hXw 1 (.int .i64 (a : Nat))).set_ne ((X7.set _ _).set _ _) (by decide) hXw 2 (.int .i64 (b : Nat))).set_ne (((X7.set _ _).set _ _).set _ _) (by decide) hXw 3 (.int .i64 (c : Nat))).set_ne ((((X7.set _ _).set _ _).set _ _).set _ _) (by decide) hXw 4 (.int .i64 (d : Nat)))
            clear X7 hb0 hcd
            go_upto_region 19 with fail
            go_region
            all_goals go_wp2_with fail
            all_goals refine bodyPost_ret (v := .tuple #[.agg #[.slice vA l.length vc, .int .i64 (a : Nat), .int .i64 (b : Nat), .int .i64 (c : Nat), .int .i64 (d : Nat)], .string (bs r'), .int .i64 0]) (by simp [results, Tryz.results41, go_sem, x0, x1, x2, x3, x4]) rfl ?_
            all_goals rw [HRES.out]
            all_goals exact ⟨⟨l, vA, vc, a, b, c, d⟩, rfl, rfl, HNF.out.drew⟩
  · have hcz : ((c : Int) == 0) = false := by rw [beq_eq_false_iff_ne]; omega
    have hres : R = (En.z, [], c) := by
      rw [HR.out]
      unfold tEn
      rw [htk, if_pos hc]
    have HRES := Lib.hid hres
    obtain ⟨x0, x1, x2, x3, x4⟩ := X2.c5
    obtain ⟨y0, y1, y2, y3, y4⟩ := Y2.c5
    have z0 := X2.free 0
    have z1 := X2.free 1
    have z2 := X2.free 2
    have z3 := X2.free 3
    have z4 := X2.free 4
    have HB := Lib.hid (((((hb2.setCell hXw (.slice none 0 0) (p := ⟨X, 0, none⟩)).setCell hXw (.int .i64 0) (p := ⟨X, 1, none⟩)).setCell hXw (.int .i64 0) (p := ⟨X, 2, none⟩)).setCell hXw (.int .i64 0) (p := ⟨X, 3, none⟩)).setCell hXw (.int .i64 0) (p := ⟨X, 4, none⟩))
    clear htk hres X2 Y2 hn2 hb2 hc
    go_wp2_with fail
    refine bodyPost_ret (v := .tuple #[.agg #[.slice none 0 0, .int .i64 0, .int .i64 0, .int .i64 0, .int .i64 0], .string (bs []), .int .i64 (c : Nat)]) (by simp [results, Tryz.results41, go_sem, x0, x1, x2, x3, x4]; rfl) rfl ?_
    rw [HRES.out]
    exact RetE.no HB.out
end Go.Proofs.YtgabmfibfikdbaaGreatDoor
