/-
 Layer 16: the laws' own functions: Long, awake; Build, Table, Entries as the laws call them.
-/
import Derived.Test.YtgabmfibfikdbaaGreatDoorZBokHd
import Derived.Test.YtgabmfibfikdbaaGreatDoorZBokId
import Derived.Test.YtgabmfibfikdbaaGreatDoorZMrgD
import Derived.Test.YtgabmfibfikdbaaGreatDoorZIdtA
import Derived.Test.YtgabmfibfikdbaaGreatDoorZLib14
import Derived.Test.YtgabmfibfikdbaaGreatDoorZLib4
import Derived.Test.YtgabmfibfikdbaaGreatDoorZLib2
import Derived.Test.YtgabmfibfikdbaaGreatDoorRows
import Derived.LaidMore
import Derived.Lay
import Derived.Stop.Joined
import Derived.ChangeSame
import Derived.Test.YtgabmfibfikdbaaGreatDoorZBokM
import Derived.Test.YtgabmfibfikdbaaGreatDoorZLabT

set_option maxHeartbeats 32000000
set_option maxRecDepth 10000
namespace Go.Proofs.YtgabmfibfikdbaaGreatDoor
open Go.RowKit Go.Bar Go.Bar.Leb Go.Bar.Frm Go.Bar.Lab Go.Bar.Xor Go.Bar.Mrg Go.Bar.Met Go.Bar.Bok

theorem SlAt.none0 (w : World) (sz : Nat) : SlAt w sz (.slice none 0 0) 0 [] := ⟨by simp, _, _, rfl, Nat.le_refl _, by decide, fun h => absurd h (by simp)⟩

def RetF (w : World) (m : Mt) (C I : List UInt8) (e : Ending) (w' : World) : Prop :=
 ∃ F fc S sc, e = .returned (.tuple #[.agg #[.string (bs m.id), .int .i64 m.mn, .int .i64 m.mx, .int .i64 m.lv, .int .i64 m.sr, .int .i64 m.sm, .slice F 2 fc, .slice S 0 sc, .string (bs C), .string (bs I)], .int .i64 0]) /\ FlsAt w' (.slice F 2 fc) m.fs /\ Below w.heap.size w w'
theorem built (t s : Nat) (b lv : Int) (tv : Value) (T : List Rv) (R : List Row) (w : World) (hW : WidthsAt w) (hT : TbAt w tv T) (he : T.map plR = R) (hs : SmallT 0 b R) (hb : 0 < b) (hb2 : b <= 1099511627776) (h1 : 1 <= lv) (h9 : lv <= 9) (ht : t < 32 ^ 8) (hs2 : s < 32 ^ 8) :
  Calls Tryz.prog 22 #[.string (bs (Idt.mk t s)), .int .i64 0, .int .i64 b, .int .i64 lv, .slice none 0 0, tv] w (RetF w (bMt (Idt.mk t s) 0 b lv [] R) (bCh R) (idxB (bEn R 0))) := by
 have hl : T.length = R.length := by rw [<- he, List.length_map]
 subst he
 have hch := hs.ch (Int.le_refl _) hb2
 have hix := hs.idx (Int.le_refl _) hb2
 have hc := hs.cnt
 have hn := hs.n
 refine (kbuild_ok (Idt.mk t s) 0 b lv (.slice none 0 0) [] tv T w hW (SlAt.none0 w 1) hT (by rw [Idt.mk_length]; omega) ⟨Nat.zero_le _, fun s hs => by cases hs⟩ (by omega) (fun r hr => ⟨hs.smok (Int.le_refl _) hb2 r hr, by have := hs.len r hr; omega⟩) (fun r hr => ?_) (by omega) (by omega) (by omega) (hs.bd (Int.le_refl _) hb hb2 h1 h9 ht hs2)).mono ?_
 ·obtain ⟨k, hk⟩ := hs.lab r hr
  have hok := lab5_ok k
  rw [<- hk] at hok
  exact ⟨by have := hok.2.1; omega, fun p hp => by have h1 := okP_len (hok.2.2.1 p hp); omega⟩
 ·rintro e w' (⟨_, F, fc, S, sc, rfl, hf, _, hbl⟩ | ⟨h, _⟩)
  ·exact ⟨F, fc, S, sc, rfl, SlAt.of_buf hf, hbl⟩
  ·exact absurd (hs.bd (Int.le_refl _) hb hb2 h1 h9 ht hs2) h
def RetT0 (w : World) (R : List Row) (e : Ending) (w' : World) : Prop := ∃ v t, e = .returned (.tuple #[v, .int .i64 0]) /\ RTb w w' 94 v t /\ t.map plR = R
theorem tabled (t s : Nat) (b lv : Int) (R : List Row) (F : Option Addr) (fc : Nat) (S : Option Addr) (sc : Nat) (w : World) (hW : WidthsAt w) (hF : FlsAt w (.slice F 2 fc) (bMt (Idt.mk t s) 0 b lv [] R).fs) (hs : SmallT 0 b R) (hb : 0 < b) (hb2 : b <= 1099511627776) (h1 : 1 <= lv) (h9 : lv <= 9) (ht : t < 32 ^ 8) (hs2 : s < 32 ^ 8) :
  Calls Tryz.prog 27 #[.agg #[.string (bs (Idt.mk t s)), .int .i64 0, .int .i64 b, .int .i64 lv, .int .i64 (R.length : Nat), .int .i64 (cntR R : Nat), .slice F 2 fc, .slice S 0 sc, .string (bs (bCh R)), .string (bs (idxB (bEn R 0)))]] w (RetT0 w R) := by
 have hch := hs.ch (Int.le_refl _) hb2
 have hix := hs.idxB (Int.le_refl _) hb2
 refine (ktable_ok (bMt (Idt.mk t s) 0 b lv [] R) ⟨chunksN, (bCh R).length, Frm.sum (bCh R)⟩ ⟨indexN, (idxB (bEn R 0)).length, Frm.sum (idxB (bEn R 0))⟩ rfl (.slice F 2 fc) (.slice S 0 sc) (bCh R) (idxB (bEn R 0)) w hW hF (by omega) (by omega) (by rw [hs.back (Int.le_refl _) hb hb2 h1 h9 ht hs2])).mono ?_
 rw [hs.back (Int.le_refl _) hb hb2 h1 h9 ht hs2]
 exact fun e w' h => h
def RetEs0 (w : World) (R : List Row) (e : Ending) (w' : World) : Prop := ∃ v l, e = .returned (.tuple #[v, .int .i64 0]) /\ DEs w w w w' 45 128 v l /\ l.map plE = bEn R 0
theorem entried (b : Int) (R : List Row) (w : World) (hs : SmallT 0 b R) (hb2 : b <= 1099511627776) : Calls Tryz.prog 10 #[.string (bs (idxB (bEn R 0)))] w (RetEs0 w R) := by
 have hch := hs.ch (Int.le_refl _) hb2
 have hix := hs.idx (Int.le_refl _) hb2
 have hixB := hs.idxB (Int.le_refl _) hb2
 have hn := hs.n
 refine (kentries_any (idxB (bEn R 0)) w (by omega)).mono ?_
 rw [entriesR_of (bEn_ok (hs.row (Int.le_refl _) hb2) hs.good (by omega)) (bEn_rls R 0 hs.good.1) (by rw [bEn_len]; omega) (by omega)]
 exact fun e w' h => h

theorem long_any (n st : Nat) (w : World) (hn : n <= 400) (hs : st <= 1000) : Calls Tryz.prog 34 #[.int .i64 (n : Nat), .int .i64 (st : Nat)] w (RetTb w 94 (longT n st)) := by
 have hl : ∀ w, Calls Tryz.prog 56 #[.int .u8 0] w (RetN14 w 128 (lab5 0)) := fun w => labels_any 0 w
 obtain ⟨L, hL⟩ : ∃ L, L = lab5 0 := ⟨_, rfl⟩
 rw [<- hL] at hl
 have HL := Lib.hid hL
 have hmin : min (n : Int) 400 = (n : Int) := by omega
 clear hL
 go_enter Tryz.func34, Tryz.ntmps34
 go_wp2_with fail
 refine (hl _).mono ?_
 rintro e w1 ⟨lv, rfl, hlv⟩
 obtain ⟨lA, lc, rfl, hlc⟩ := hlv.buf.shape
 have HLV := Lib.hid hlv
 clear hl hlv
 go_upto_region 3 with fail
 obtain ⟨wz, hwz⟩ : ∃ wz, wz = w1.alloc (.cells #[.slice lA L.length lc, .slice none 0 0] 94) := ⟨_, rfl⟩
 have X1 : Hid (Blk wz w1.heap.size 94 #[.slice lA L.length lc, .slice none 0 0]) := Lib.hid (by rw [hwz]; exact Blk.new _ _ _)
 have b1 : Below w1.heap.size w1 wz := by rw [hwz]; exact below_al _ _
 obtain ⟨X, hX⟩ : ∃ X, X = w1.heap.size := ⟨_, rfl⟩
 have HLZ := Lib.hid (HLV.out.then_below b1)
 have HXw : Hid (w.heap.size <= X) := Lib.hid (by rw [hX]; exact HLV.out.below.size)
 rw [<- hwz, <- hX]
 rw [<- hX] at X1
 clear hwz hX HLV b1
 go_loopw [6] (fun iv wr => ∃ (k : Nat) (sv : Value), iv = .int .i64 k /\ k <= n /\ Hid (Blk wr X 94 #[.slice lA L.length lc, sv]) /\ Hid (NBuf w wr 41 2 sv k (smc (longS k st))) /\ Hid (NBuf w wr 128 2 (.slice lA L.length lc) L.length (pcs L))) (fun iv _ => n - (intOf iv).toNat)
 case atStart => exact ⟨0, _, rfl, Nat.zero_le _, X1, Lib.hid (NBuf.nil HLZ.out.below _ _), HLZ⟩
 case round =>
  obtain ⟨k, sv, rfl, hk, HX, HS, HLR⟩ := hrel
  clear X1 HLZ
  obtain ⟨sA, sc, rfl, hsc⟩ := HS.out.buf.shape
  obtain ⟨r0, r1⟩ := HX.out.c2
  by_cases hgo : k < n
  ·have hmul : (k : Int) * (st : Int) = ((k * st : Nat) : Int) := by rw [Int.natCast_mul]
   have hkst : k * st <= 400000 := Nat.le_trans (Nat.mul_le_mul (by omega : k <= 400) hs) (by decide)
   have hw1 : wrap64 ((k * st : Nat) : Int) = ((k * st : Nat) : Int) := by unfold wrap64; omega
   obtain ⟨m3, hm3⟩ : ∃ m, m = k % 3 := ⟨_, rfl⟩
   have hmod : (k : Int) % 3 = ((m3 : Nat) : Int) := by omega
   have HM3 := Lib.hid hm3
   have hm3b : m3 < 3 := by omega
   obtain ⟨T, hT⟩ : ∃ T, T = k * st := ⟨_, rfl⟩
   rw [<- hT] at hmul hkst hw1
   have HT := Lib.hid hT
   have f1 := HX.out.free 1
   have hlit := below_al wr (.cells #[.int .i64 (T : Nat), .int .u64 (m3 : Nat)] 41)
   have HN1 := Lib.hid (HS.out.then_below hlit)
   have HX1 := Lib.hid (HX.out.below hlit)
   have HL1 := Lib.hid (HLR.out.then_below hlit)
   clear hT hlit hm3
   go_wp2_with (at_builtin; refine wpList_append_nlit rfl (.tmp 16) (.tmp 24) 32 rfl sm_ty rfl HS.out rfl (by simp) rfl (by simp [Value.oneCell']) (by simp only [maxLen]; omega) (by omega) ?_; intro v7 w7 hn7 ha7; have hk7 := Ke.of_ap (Ts := fun U => U = 41) HN1.out.buf ha7 rfl; have HX7 := Lib.hid (hk7.blk HX1.out (by decide)); have HL7 := Lib.hid (nbuf_ke HL1.out hk7 hn7.below (by decide)); have HN7 := Lib.hid hn7; have f7 := HX7.out.free 1; obtain ⟨_, q1⟩ := HX7.out.c2; clear hk7 ha7 hn7; obtain ⟨nA, nc, rfl, hnc⟩ := HN7.out.buf.shape)
   have HN8 := Lib.hid (HN7.out.set_ne HX7.out (by decide) HXw.out 1 (.slice nA (k + 1) nc))
   have HL8 := Lib.hid (HL7.out.set_ne HX7.out (by decide) HXw.out 1 (.slice nA (k + 1) nc))
   have HX8 := Lib.hid (show Blk _ X 94 #[.slice lA L.length lc, .slice nA (k + 1) nc] by simpa using HX7.out.set 1 (.slice nA (k + 1) nc))
   clear HN7 HL7 HX7 f7 q1 HX1 HN1 HL1
   go_roundw
   case rel =>
    refine ⟨k + 1, .slice nA (k + 1) nc, by go_num, hgo, HX8, Lib.hid ?_, HL8⟩
    have h8 := HN8.out
    rw [longS_succ, smc_append, <- HT.out, <- HM3.out]
    exact h8
   case measure => simp [intOf]; omega
  ·obtain rfl : k = n := by omega
   have hn := nbuf_lit (W := w) (w := wr) HS.out.below 94 2 1 [.slice lA L.length lc, .slice sA k sc] rfl (by decide)
   have HN := Lib.hid hn
   clear hn
   go_wp2_with fail
   go_ret
   have hb := below_al wr (.cells #[.slice lA L.length lc, .slice sA k sc] 94)
   refine ⟨_, [⟨L, longS k st, lA, lc, sA, sc⟩], rfl, ⟨?_, fun x hx => ?_⟩, ?_⟩
   ·have h8 := HN.out
    show NBuf _ _ _ _ _ 1 [.slice lA L.length lc, .slice sA (longS k st).length sc]
    rw [longS_len]
    exact h8
   ·obtain rfl := List.mem_singleton.1 hx
    refine ⟨(HLR.out.then_below hb).slice, ?_⟩
    have h8 := (HS.out.then_below hb).slice
    show SmsAt _ (.slice sA (longS k st).length sc) (longS k st)
    unfold SmsAt
    rw [longS_len]
    exact h8
   ·rw [HL.out]; rfl

theorem bCh_one (L : List Pr) (S : List Sm) : bCh [(L, S)] = chB S := by simp [bCh]

theorem awake16_any (w : World) (hW : WidthsAt w) : Calls Tryz.prog 14 #[] w (RetBelow w (.bool true)) := by
 have hs : SmallT 0 1000 (longT 121 5) := by
  have h := long_small (n := 121) (st := 5) (b := 2000) (by decide) (by decide) (by decide) (by decide)
  refine ⟨h.good, h.n, h.lab, h.ne, h.len, fun r hr y hy => ?_, h.v⟩
  obtain rfl := List.mem_singleton.1 hr
  obtain ⟨i, hi, rfl⟩ := longS_mem hy
  exact ⟨by show (0 : Int) <= ((i * 5 : Nat) : Int); omega, by show ((i * 5 : Nat) : Int) < _; omega⟩
 have hm : ∀ w, Calls Tryz.prog 30 #[.int .i64 1, .int .i64 1] w (RetBelow w (.tuple #[.string (bs (Idt.mk 1 1)), .int .i64 0])) := fun w => make_ok 1 1 w ⟨by decide, by decide⟩ ⟨by decide, by decide⟩
 have hl : ∀ w, Calls Tryz.prog 34 #[.int .i64 121, .int .i64 5] w (RetTb w 94 (longT 121 5)) := fun w => long_any 121 5 w (by decide) (by decide)
 obtain ⟨R, hR⟩ : ∃ R, R = longT 121 5 := ⟨_, rfl⟩
 have hR1 : ∃ L S, R = [(L, S)] /\ S.length = 121 := ⟨_, _, hR, longS_len _ _⟩
 rw [<- hR] at hs hl
 obtain ⟨I, hI⟩ : ∃ I, I = Idt.mk 1 1 := ⟨_, rfl⟩
 rw [<- hI] at hm
 have hbu := fun tv T w hW hT he => built 1 1 1000 1 tv T R w hW hT he hs (by decide) (by decide) (by decide) (by decide) (by decide) (by decide)
 have hta := fun F fc S sc w hW hF => tabled 1 1 1000 1 R F fc S sc w hW hF hs (by decide) (by decide) (by decide) (by decide) (by decide) (by decide)
 have hen := fun w => entried 1000 R w hs (by decide)
 rw [<- hI] at hbu hta
 unfold RetF bMt at hbu
 dsimp only at hbu
 unfold bMt at hta
 dsimp only at hta
 obtain ⟨C, hC⟩ : ∃ C, C = bCh R := ⟨_, rfl⟩
 obtain ⟨X, hX⟩ : ∃ X, X = idxB (bEn R 0) := ⟨_, rfl⟩
 rw [<- hC, <- hX] at hbu hta
 rw [<- hX] at hen
 have HR1 := Lib.hid hR1
 have HBU := Lib.hid hbu
 have HTA := Lib.hid hta
 have HEN := Lib.hid hen
 have HC := Lib.hid hC
 have HW := Lib.hid hW
 clear hs hR hR1 hI hbu hta hen hC hX hW
 go_enter Tryz.func14, Tryz.ntmps14
 go_wp2_with fail
 refine (hm _).mono ?_
 rintro e w1 ⟨rfl, hb1⟩
 have HB1 := Lib.hid hb1
 clear hb1 hm
 go_wp2_with fail
 refine (hl _).mono ?_
 rintro e w2 ⟨v2, t2, rfl, ht2, he2⟩
 have HB2 := Lib.hid (below_trans HB1.out ht2.1.below)
 have hb3 := HBU.out v2 t2 w2 (HW.out.below HB2.out) ht2.tb he2
 have HB3 := Lib.hid hb3
 clear hb3 ht2 he2 HBU hl HB1
 go_wp2_with fail
 refine HB3.out.mono ?_
 rintro e w3 ⟨F, fc, S, sc, rfl, hf, hb⟩
 have HB4 := Lib.hid (below_trans HB2.out hb)
 have HF := Lib.hid hf
 clear hf hb HB3 HB2
 go_upto_region 3 with fail
 obtain ⟨wz, hwz⟩ : ∃ wz, wz = w3.alloc (.cells #[.string (bs I), .int .i64 0, .int .i64 1000, .int .i64 1, .int .i64 (R.length : Nat), .int .i64 (cntR R : Nat), .slice F 2 fc, .slice S 0 sc, .string (bs C), .string (bs X)] 64) := ⟨_, rfl⟩
 have X1 : Hid (Blk wz w3.heap.size 64 #[.string (bs I), .int .i64 0, .int .i64 1000, .int .i64 1, .int .i64 (R.length : Nat), .int .i64 (cntR R : Nat), .slice F 2 fc, .slice S 0 sc, .string (bs C), .string (bs X)]) := Lib.hid (by rw [hwz]; exact Blk.new _ _ _)
 have b1 : Below w3.heap.size w3 wz := by rw [hwz]; exact below_al _ _
 obtain ⟨Q, hQ⟩ : ∃ Q, Q = w3.heap.size := ⟨_, rfl⟩
 have HB5 := Lib.hid (below_trans HB4.out b1)
 have HF5 := Lib.hid (HF.out.below b1)
 rw [<- hwz, <- hQ]
 rw [<- hQ] at X1
 clear hwz hQ b1 HB4 HF
 obtain ⟨k0, k1, k2, k3, k4, k5, k6, k7, k8, k9⟩ := X1.out.c10
 go_wp2_with fail
 refine (HEN.out _).mono ?_
 rintro e w6 ⟨v6, es, rfl, hes, hpl⟩
 have HB6 := Lib.hid (below_trans HB5.out hes.n.below)
 have HF6 := Lib.hid (HF5.out.below hes.n.below)
 have X6 := Lib.hid (X1.out.below hes.n.below)
 have HES := Lib.hid hes
 have HPL := Lib.hid hpl
 clear hes hpl HB5 HF5 X1 k0 k1 k2 k3 k4 k5 k6 k7 k8 k9 HEN
 obtain ⟨k0, k1, k2, k3, k4, k5, k6, k7, k8, k9⟩ := X6.out.c10
 have hta := HTA.out F fc S sc w6 (HW.out.below HB6.out) HF6.out
 have HT := Lib.hid hta
 clear hta HTA HF6
 go_wp2_with fail
 refine HT.out.mono ?_
 rintro e w7 ⟨v7, t7, rfl, ht7, he7⟩
 have HB7 := Lib.hid (below_trans HB6.out ht7.1.below)
 have X7 := Lib.hid (X6.out.below ht7.1.below)
 have HES7 := Lib.hid (HES.out.below ht7.1.below)
 obtain ⟨L, S2, hR, hSl⟩ := HR1.out
 have hpl := HPL.out
 rw [hR] at hpl he7
 obtain ⟨⟨ls, la, lc, fr, n, mn, mx⟩, rfl⟩ : ∃ x, es = [x] := by
  match es, congrArg List.length hpl with
  | [x], _ => exact ⟨x, rfl⟩
 obtain ⟨⟨rl, rs, ra, rc, sa, sc2⟩, rfl⟩ : ∃ x, t7 = [x] := by
  match t7, congrArg List.length he7 with
  | [x], _ => exact ⟨x, rfl⟩
 have hn : n = (C.length : Int) := by
  have h1 : (⟨ls, fr, n, mn, mx⟩ : En) = ⟨L, 0, ((chB S2).length : Nat), first S2, last S2⟩ := by injection hpl
  rw [HC.out, hR, bCh_one]
  exact congrArg En.n h1
 have hrs : rs.length = 121 := by
  have h1 : (rl, rs) = (L, S2) := by injection he7
  rw [(Prod.mk.inj h1).2]; exact hSl
 have hcn : cntR R = 121 := by rw [hR]; show cntR ([] ++ [(L, S2)]) = _; rw [cntR_snoc]; show 0 + S2.length = _; omega
 obtain ⟨oA, oc, rfl, hoc⟩ := HES7.out.n.buf.shape
 obtain ⟨tA, tc, rfl, htc⟩ := ht7.1.buf.shape
 obtain ⟨eb, eo, rfl, _, _, _, _, g2, _, _⟩ := (HES7.out.at_ (HES7.out.n.below)).at_ (i := 0) rfl
 obtain ⟨tb, to_, rfl, _, f1, _⟩ := ht7.tb.at_ (i := 0) rfl
 dsimp only at g2 f1
 subst hn
 rw [hrs] at f1
 rw [hcn] at X7
 obtain ⟨k0, k1, k2, k3, k4, k5, k6, k7, k8, k9⟩ := X7.out.c10
 clear ht7 hpl he7 hrs hcn hSl hR HC HPL HR1 HES X6 HB6 HT
 go_wp2_with fail
 go_quiet (fail)
 go_wp2_with fail
 go_ret
 exact ⟨rfl, below_trans HB7.out (below_draws _ _)⟩
end Go.Proofs.YtgabmfibfikdbaaGreatDoor

namespace Go.Bar
open Go.RowKit Go.ChangeShapes Go.WideShapes Go.Deep

section
variable {H : Type} {enc : TypeId × Value -> H} {P : Program} {w : World} {base : Nat} {spare : Nat -> Bool} {held : Bool}
theorem open_fields_raw {t e : TypeId} {fs : Array Field} {x : Value} {y : DataW H × List MemPlace} {fuel : Nat} (ht : P.underlying t = some (.slice e)) (he : P.underlying e = some (.struct fs))
  (hone : oneCellFields P fs = true) (hC : P.cellsOf e = fs.size) (hpos : 0 < fs.size) (hf : DataW.trod enc P w base spare held fuel t [x] = some y) :
  ∃ (A : Option Addr) (n c : Nat), x = .slice A n c /\ n <= c /\ c <= maxLen /\ (0 < n -> ∃ b o, A = some ⟨b, o, none⟩ /\ b < w.heap.size /\
   ∀ i, i < n -> ∀ (j : Nat) (f : Field), fs[j]? = some f -> ∃ (x : Value) (y : DataW H × List MemPlace) (k : Nat), w.cell? ⟨b, o + (i * fs.size + j), none⟩ = some x /\ DataW.trod enc P w base spare held k f.type [x] = some y) := by
 rcases open_slice ht hf with ⟨hcs, _⟩ | ⟨a, len, cap, m, n, D, Pl, hcs, _, hlc, hcm, hm, _, hi⟩
 ·simp only [List.cons.injEq, and_true] at hcs
  subst hcs
  exact ⟨none, 0, 0, rfl, Nat.le_refl _, by decide, fun h => absurd h (Nat.lt_irrefl _)⟩
 ·simp only [List.cons.injEq, and_true] at hcs
  subst hcs
  refine ⟨some a, len, cap, rfl, hlc, hcm, fun h0 => ?_⟩
  obtain ⟨b, o, spot⟩ := a
  have hread : ∀ i, i < len -> ∀ (j : Nat) (f : Field), fs[j]? = some f -> ∃ (x : Value) (y : DataW H × List MemPlace) (k : Nat), w.cell? ((Addr.add ⟨b, o, spot⟩ (i * fs.size)).add j) = some x /\ DataW.trod enc P w base spare held k f.type [x] = some y := by
   intro i hil j f hj
   obtain ⟨cs, hc, hr⟩ := hi i (by rw [hm]; split <;> omega)
   rw [hC] at hc
   obtain ⟨_, hcl, hat⟩ := World.cells?_some hc
   obtain ⟨ys, k, _, _, _, hyl, hg⟩ := DataW.trod_struct he hr
   obtain ⟨ho, hk⟩ := hone_of hone j f hj
   have hjl : j < fs.size := (Array.getElem?_eq_some_iff.1 hj).1
   have h1 := hg j f hj
   rw [ho, hk] at h1
   have hone' : (cs.drop j).take 1 = [cs[j]'(by omega)] := by
    rw [List.drop_eq_getElem_cons (by omega)]
    rfl
   rw [hone'] at h1
   exact ⟨_, _, k, (hat j hjl).trans (List.getElem?_eq_getElem (by omega)), h1.trans (List.getElem?_eq_getElem (by omega))⟩
  have hspot : spot = none := by
   obtain ⟨x, y, k, hat, _⟩ := hread 0 h0 0 _ (Array.getElem?_eq_getElem hpos)
   rw [Nat.zero_mul, show ((Addr.add ⟨b, o, spot⟩ 0).add 0) = (⟨b, o, spot⟩ : Addr) by simp [Addr.add]] at hat
   exact World.cell?_spot hat
  subst hspot
  have hlt : b < w.heap.size := by
   obtain ⟨x, y, k, hat, _⟩ := hread 0 h0 0 _ (Array.getElem?_eq_getElem hpos)
   rw [addr_add, addr_add] at hat
   exact World.block_lt_of_cell? _ _ hat
  refine ⟨b, o, rfl, hlt, fun i hil j f hj => ?_⟩
  obtain ⟨x, y, k, hat, hr⟩ := hread i hil j f hj
  rw [addr_add, addr_add, Nat.add_assoc] at hat
  exact ⟨x, y, k, hat, hr⟩
theorem open_ones_raw {t e : TypeId} {x : Value} {y : DataW H × List MemPlace} {fuel : Nat} (ht : P.underlying t = some (.slice e)) (hC : P.cellsOf e = 1) (hf : DataW.trod enc P w base spare held fuel t [x] = some y) :
  ∃ (A : Option Addr) (n c : Nat), x = .slice A n c /\ n <= c /\ c <= maxLen /\ (0 < n -> ∃ b o, A = some ⟨b, o, none⟩ /\ b < w.heap.size /\
   ∀ i, i < n -> ∃ (x : Value) (y : DataW H × List MemPlace) (k : Nat), w.cell? ⟨b, o + i, none⟩ = some x /\ DataW.trod enc P w base spare held k e [x] = some y) := by
 rcases open_slice ht hf with ⟨hcs, _⟩ | ⟨a, len, cap, m, n, D, Pl, hcs, _, hlc, hcm, hm, _, hi⟩
 ·simp only [List.cons.injEq, and_true] at hcs
  subst hcs
  exact ⟨none, 0, 0, rfl, Nat.le_refl _, by decide, fun h => absurd h (Nat.lt_irrefl _)⟩
 ·simp only [List.cons.injEq, and_true] at hcs
  subst hcs
  refine ⟨some a, len, cap, rfl, hlc, hcm, fun h0 => ?_⟩
  obtain ⟨b, o, spot⟩ := a
  have hread : ∀ i, i < len -> ∃ (x : Value) (y : DataW H × List MemPlace) (k : Nat), w.cell? (Addr.add ⟨b, o, spot⟩ i) = some x /\ DataW.trod enc P w base spare held k e [x] = some y := by
   intro i hil
   obtain ⟨cs, hc, hr⟩ := hi i (by rw [hm]; split <;> omega)
   rw [hC, Nat.mul_one] at hc
   obtain ⟨_, hcl, hat⟩ := World.cells?_some hc
   match cs, hcl with
   | [c0], _ =>
    have := hat 0 (by omega)
    rw [show (Addr.add ⟨b, o, spot⟩ i).add 0 = Addr.add ⟨b, o, spot⟩ i by simp [Addr.add]] at this
    exact ⟨c0, _, _, this, hr⟩
  have hspot : spot = none := by
   obtain ⟨x, y, k, hat, _⟩ := hread 0 h0
   rw [show (Addr.add ⟨b, o, spot⟩ 0) = (⟨b, o, spot⟩ : Addr) by simp [Addr.add]] at hat
   exact World.cell?_spot hat
  subst hspot
  have hlt : b < w.heap.size := by
   obtain ⟨x, y, k, hat, _⟩ := hread 0 h0
   rw [addr_add] at hat
   exact World.block_lt_of_cell? _ _ hat
  refine ⟨b, o, rfl, hlt, fun i hil => ?_⟩
  obtain ⟨x, y, k, hat, hr⟩ := hread i hil
  rw [addr_add] at hat
  exact ⟨x, y, k, hat, hr⟩
end
end Go.Bar

namespace Go.Proofs.YtgabmfibfikdbaaGreatDoor
open Go.RowKit Go.Bar Go.Bar.Leb Go.Bar.Lab Go.Bar.Xor Go.Bar.Mrg Go.ChangeShapes Go.WideShapes Go.ChangeAt

section
variable {H : Type} {enc : TypeId × Value -> H} {W : World} {base : Nat} {spare : Nat -> Bool} {held : Bool}
def On3Ok (x : On3) : Prop := x.nm < 256 /\ (-9223372036854775808 <= x.t /\ x.t <= 9223372036854775807) /\ x.v < 18446744073709551616
theorem open_ones14 {x : Value} {y : DataW H × List MemPlace} {fuel : Nat} (h : DataW.trod enc Tryz.prog W base spare held fuel 54 [x] = some y) : ∃ l, O3At W x l /\ ∀ z ∈ l, On3Ok z := by
 obtain ⟨A, n, c, rfl, hnc, hcm, hx⟩ := open_fields_raw Tryz.underlying54 Tryz.underlying137 (by kernel_rfl) (by kernel_rfl) (Nat.zero_lt_succ 2 : 0 < 3) h
 rcases Nat.eq_zero_or_pos n with h0 | h0
 ·subst h0
  exact ⟨[], ⟨rfl, A, c, rfl, hnc, hcm, fun h => absurd h (by simp)⟩, by simp⟩
 ·obtain ⟨b, o, rfl, hb, hf⟩ := hx h0
  obtain ⟨rs, hl, ht⟩ := list_of (fun i (x : On3) => (∀ j u, (enc3 x)[j]? = some u -> W.cell? ⟨b, o + (i * 3 + j), none⟩ = some u) /\ On3Ok x) n (fun i hi => by
   obtain ⟨x0, y0, k0, c0, t0⟩ := hf i hi 0 _ rfl
   obtain ⟨x1, y1, k1, c1, t1⟩ := hf i hi 1 _ rfl
   obtain ⟨x2, y2, k2, c2, t2⟩ := hf i hi 2 _ rfl
   obtain ⟨n0, e0, _, w0⟩ := DataW.trod_int Tryz.underlying5 t0
   obtain ⟨n1, e1, _, w1⟩ := DataW.trod_int Tryz.underlying2 t1
   obtain ⟨n2, e2, _, w2⟩ := DataW.trod_int Tryz.underlying39 t2
   replace e0 : x0 = _ := (List.cons.inj e0).1
   replace e1 : x1 = _ := (List.cons.inj e1).1
   replace e2 : x2 = _ := (List.cons.inj e2).1
   subst e0; subst e1; subst e2
   have w0 := bounds_u8 w0
   have w2 := bounds_u64 w2
   refine ⟨⟨n0.toNat, n1, n2.toNat⟩, fun j u hu => ?_, by show n0.toNat < 256; omega, bounds_i64 w1, by show n2.toNat < 18446744073709551616; omega⟩
   match j, hu with
   | 0, hu => simp [enc3] at hu; subst hu; rw [Int.max_eq_left w0.1]; exact c0
   | 1, hu => simp [enc3] at hu; subst hu; exact c1
   | 2, hu => simp [enc3] at hu; subst hu; rw [Int.max_eq_left w2.1]; exact c2
   | j + 3, hu => simp [enc3] at hu)
  refine ⟨rs, ⟨flat_length enc3 3 enc3_len rs, some ⟨b, o, none⟩, c, by rw [hl], by rw [hl]; exact hnc, hcm, fun _ => ⟨b, o, rfl, hb, fun j hj => ?_⟩⟩, fun z hz => by obtain ⟨i, hi⟩ := List.mem_iff_getElem?.1 hz; exact (ht i z hi).2⟩
  have hlt : j / 3 < rs.length := by omega
  have hg := List.getElem?_eq_getElem hlt
  have h1 := flat_get enc3 3 enc3_len rs (j / 3) _ hg (j % 3) (by omega)
  rw [show j / 3 * 3 + j % 3 = j by omega] at h1
  have hm5 : j % 3 < (enc3 rs[j / 3]).length := by rw [enc3_len]; exact Nat.mod_lt _ (by omega)
  obtain ⟨u, hu⟩ : ∃ u, (enc3 rs[j / 3])[j % 3]? = some u := ⟨_, List.getElem?_eq_getElem hm5⟩
  have h2 := (ht (j / 3) _ hg).1 (j % 3) u hu
  rw [show j / 3 * 3 + j % 3 = j by omega] at h2
  rw [h2]
  exact (h1.trans hu).symm
end
def O3Arg (W : World) (v : Value) (l : List On3) : Prop := O3At W v l /\ ∀ z ∈ l, On3Ok z
set_option maxRecDepth 100000 in
theorem open_arg14 {H : Type} {enc : TypeId × Value -> H} {W : World} {base b0 : Nat} {spare : Nat -> Bool} {held : Bool} {r : Reach} {v : Value} {d : DataW H} {p : List MemPlace} (hval : Value.okWide Tryz.prog W r b0 54 v)
  (h : DataW.Trod enc Tryz.prog W base spare held 54 v d p) : ∃ l, O3Arg W v l := by
 obtain ⟨A, len, cap, rfl⟩ := okWide_slice Tryz.underlying54 hval
 obtain ⟨k, hk⟩ := h
 have e : (Value.slice A len cap).cells.toList = [.slice A len cap] := by simp [Value.cells]
 rw [e] at hk
 exact open_ones14 hk

end Go.Proofs.YtgabmfibfikdbaaGreatDoor

namespace Go.Proofs.YtgabmfibfikdbaaGreatDoor
open Go.RowKit Go.Bar Go.Bar.Xor Go.ChangeShapes Go.WideShapes Go.ChangeAt Go.Deep

theorem law_own : ownKnob Tryz.prog.godebug = none := by kernel_rfl
theorem law_laid : laidOutB Tryz.prog = true := by kernel_rfl
theorem g_widths : Tryz.prog.globalNamed "barograph/xor.widths" = some 1 := by kernel_rfl
theorem t_widths : (Tryz.prog.globals[1]?).map (·.type) = some 230 := by kernel_rfl
set_option maxRecDepth 100000 in
theorem of_laid {W : World} (h : laidMetH Tryz.prog [("barograph/xor.widths", Rows.laid_barograph_xor_widths), ("unicode/utf8.acceptRanges", Rows.laid_unicode_utf8_acceptRanges), ("unicode/utf8.first", Rows.laid_unicode_utf8_first)] W) : WidthsAt W := by
 rw [MakeChecks.laidMetH_plain _ _ _ (by kernel_rfl)] at h
 obtain ⟨ps, ⟨g0, t0, cs0, f0, p0, q0, hg0, ht0, hv0, hd0, _, _⟩, _, _⟩ := h
 obtain rfl := Option.some.inj (g_widths.symm.trans hg0)
 obtain rfl := Option.some.inj (t_widths.symm.trans ht0)
 obtain ⟨xs, m1, rfl, hx1, hlen, hn3, hel⟩ := DataW.trod_array Tryz.underlying230 hd0
 have c3 : Tryz.prog.cellsOf 3 = 1 := by kernel_rfl
 have c94 : Tryz.prog.cellsOf 230 = 5 := by kernel_rfl
 rw [c94] at hlen
 obtain ⟨l, hcs⟩ : ∃ l, cs0.toList = l := ⟨_, rfl⟩
 rw [hcs] at hlen hel
 simp only [Prod.mk.injEq] at hx1
 have hx := hx1.1
 match xs, hn3, hx, hel with
 | [x0, x1, x2, x3, x4], _, hx, hel =>
  match l, hlen, hcs, hel with
  | [a0, a1, a2, a3, a4], _, hcs, hel =>
   simp only [Rows.laid_barograph_xor_widths, DataW.agg.injEq, List.map_cons, List.map_nil, List.cons.injEq, and_true] at hx
   obtain ⟨y0, y1, y2, y3, y4⟩ := hx
   have hcell : ∀ i, W.cell? ⟨1, i, none⟩ = [a0, a1, a2, a3, a4][i]? := fun i => by
    have := World.var?_cell hg0 hv0 i
    rw [<- hcs, Array.getElem?_toList]
    exact this
   have h0 := hel 0 (by decide)
   have h1 := hel 1 (by decide)
   have h2 := hel 2 (by decide)
   have h3 := hel 3 (by decide)
   have h4 := hel 4 (by decide)
   rw [c3] at h0 h1 h2 h3 h4
   have val : ∀ (a : Value) (x : DataW Unit × List MemPlace) (k : Int), DataW.trod (fun _ => ()) Tryz.prog W 0 (fun _ => true) false m1 3 [a] = some x -> DataW.lit (.int .i64 k) = x.1 -> a = .int .i64 k := fun a x k hd hk => by
    obtain ⟨z, e1, e2, _⟩ := DataW.trod_int Tryz.underlying3 hd
    rw [e2] at hk
    simp only [DataW.lit.injEq, Lit.int.injEq, true_and] at hk
    subst hk
    simpa using e1
   refine ⟨fun k hk => ?_⟩
   rw [hcell]
   rcases (show k = 0 \/ k = 1 \/ k = 2 \/ k = 3 \/ k = 4 by omega) with rfl | rfl | rfl | rfl | rfl
   ·exact congrArg some (val a0 x0 0 h0 y0)
   ·exact congrArg some (val a1 x1 7 h1 y1)
   ·exact congrArg some (val a2 x2 12 h2 y2)
   ·exact congrArg some (val a3 x3 20 h3 y3)
   ·exact congrArg some (val a4 x4 64 h4 y4)

theorem door_met (os : Os) (args : Array Value) : laidMetH Tryz.prog [("barograph/xor.widths", Rows.laid_barograph_xor_widths), ("unicode/utf8.acceptRanges", Rows.laid_unicode_utf8_acceptRanges), ("unicode/utf8.first", Rows.laid_unicode_utf8_first)] ((World.laidAll Tryz.prog os [("barograph/xor.widths", Rows.laid_barograph_xor_widths), ("unicode/utf8.acceptRanges", Rows.laid_unicode_utf8_acceptRanges), ("unicode/utf8.first", Rows.laid_unicode_utf8_first)]).forCall (fun _ _ => 0) ⟨#[], args, []⟩).memory := by
 rw [MakeChecks.laidMetH_plain _ _ _ (by kernel_rfl)]; exact laidMet_laidAll _ (by kernel_rfl) (by kernel_rfl)

end Go.Proofs.YtgabmfibfikdbaaGreatDoor

namespace Go.Proofs.YtgabmfibfikdbaaGreatDoor
open Go.RowKit Go.Bar Go.Bar.Leb Go.Bar.Frm Go.Bar.Lab Go.Bar.Xor Go.Bar.Mrg Go.Bar.Met Go.Bar.Bok

structure Sml (R : List Row) : Prop where
 n : R.length <= 40
 lab : ∀ r ∈ R, ∃ k, r.1 = lab5 k
 sm : ∀ r ∈ R, SmOk r.2
 len : ∀ r ∈ R, r.2.length <= 400
theorem Sml.of {a b : Int} {R : List Row} (h : SmallT a b R) (ha : 0 <= a) (hb : b <= 1099511627776) : Sml R := ⟨h.n, h.lab, h.smok ha hb, h.len⟩
theorem Sml.mem {R R' : List Row} (h : Sml R) (hl : R'.length <= R.length) (hs : ∀ r ∈ R', r ∈ R \/ ∃ r' ∈ R, r = (r'.1, [])) : Sml R' := by
 refine ⟨Nat.le_trans hl h.n, fun r hr => ?_, fun r hr => ?_, fun r hr => ?_⟩
 ·rcases hs r hr with hr2 | ⟨r', hr2, rfl⟩
  ·exact h.lab r hr2
  ·exact h.lab r' hr2
 ·rcases hs r hr with hr2 | ⟨r', hr2, rfl⟩
  ·exact h.sm r hr2
  ·exact ⟨List.Pairwise.nil, fun x hx => (by cases hx), fun x hx => (by cases hx)⟩
 ·rcases hs r hr with hr2 | ⟨r', hr2, rfl⟩
  ·exact h.len r hr2
  ·exact Nat.zero_le _
theorem Sml.labs {R : List Row} (h : Sml R) : ∀ r ∈ R, r.1.length <= 1000 /\ ∀ p ∈ r.1, p.1.length <= 1000000 /\ p.2.length <= 1000000 := fun r hr => by
 obtain ⟨k, hk⟩ := h.lab r hr
 have hok := lab5_ok k
 rw [<- hk] at hok
 exact ⟨by have := hok.2.1; omega, fun p hp => by have h1 := okP_len (hok.2.2.1 p hp); omega⟩
theorem Sml.ch {R : List Row} (h : Sml R) : (bCh R).length <= 400000 := by
 have h1 := bCh_bound (K := 9600) (R := R) (fun r hr => by
  have h2 := chB_len (h.sm r hr)
  have h3 := h.len r hr
  have h4 : nP r.2 <= 4 := by unfold nP; omega
  have h5 := Nat.mul_le_mul_left 2400 h4
  omega)
 have h2 := h.n
 omega
theorem enB_small {x : En} (h : ∃ k, x.ls = lab5 k) : (enB x).length <= 300 := by
 obtain ⟨k, hk⟩ := h
 have u1 := u_len (w64 x.fr) (w64_lt _)
 have u2 := u_len (w64 x.n) (w64_lt _)
 have u3 := u_len (w64 x.mn) (w64_lt _)
 have u4 := u_len (w64 x.mx) (w64_lt _)
 have hl := lab5_len k
 rw [<- hk] at hl
 have u5 := u_len x.ls.length (by omega)
 have hp : ∀ l : List Pr, (∀ p ∈ l, p.1.length <= 42 /\ p.2.length <= 42) -> (l.flatMap fun p => tx p.1 ++ tx p.2).length <= 110 * l.length := by
  intro l hl
  induction l with
  | nil => exact Nat.le_refl _
  | cons p r ih =>
   have ih := ih (fun q hq => hl q (List.mem_cons_of_mem _ hq))
   have hp := hl p (List.mem_cons_self ..)
   have v1 := u_len p.1.length (by omega)
   have v2 := u_len p.2.length (by omega)
   have e : (tx p.1 ++ tx p.2).length <= 110 := by
    unfold tx
    rw [List.length_append, List.length_append, List.length_append]
    omega
   rw [List.flatMap_cons, List.length_append, List.length_cons]
   omega
 have hok := lab5_ok k
 rw [<- hk] at hok
 have h1 := hp x.ls (fun p hp => by have h1 := okP_len (hok.2.2.1 p hp); omega)
 unfold enB enT key
 rw [List.length_append, List.length_append, List.length_append, List.length_append, List.length_append]
 omega
theorem bEn_labs : ∀ (R : List Row) (a : Nat), (∀ r ∈ R, ∃ k, r.1 = lab5 k) -> ∀ x ∈ bEn R a, ∃ k, x.ls = lab5 k
 | [], _, _, x, hx => by cases hx
 | r :: R, a, h, x, hx => by
  rcases List.mem_cons.1 hx with rfl | hx
  ·exact h r (List.mem_cons_self ..)
  ·exact bEn_labs R _ (fun y hy => h y (List.mem_cons_of_mem _ hy)) x hx
theorem enBs_small : ∀ {l : List En}, (∀ x ∈ l, ∃ k, x.ls = lab5 k) -> (l.flatMap enB).length <= 300 * l.length
 | [], _ => Nat.le_refl _
 | x :: l, h => by
  have h1 := enB_small (h x (List.mem_cons_self ..))
  have h2 := enBs_small (l := l) fun y hy => h y (List.mem_cons_of_mem _ hy)
  rw [List.flatMap_cons, List.length_append, List.length_cons]
  omega
theorem Sml.idx {R : List Row} (h : Sml R) : (idxD (bEn R 0)).length <= 40000 := by
 have h1 := enBs_small (bEn_labs R 0 h.lab)
 have h2 := h.n
 rw [bEn_len] at h1
 unfold idxD
 rw [List.length_append, bEn_len]
 have h3 := u_len R.length (by omega)
 omega
theorem cnt_le {K : Nat} : ∀ {R : List Row}, (∀ r ∈ R, r.2.length <= K) -> cntR R <= K * R.length
 | [], _ => Nat.le_refl _
 | r :: R, h => by
  have h1 := h r (List.mem_cons_self ..)
  have h2 := cnt_le (R := R) fun y hy => h y (List.mem_cons_of_mem _ hy)
  have e : cntR (r :: R) = r.2.length + cntR R := by simp [cntR]
  rw [e, List.length_cons, Nat.mul_add]
  omega
theorem Sml.cnt {R : List Row} (h : Sml R) : cntR R <= 16000 := by
 have h1 := cnt_le h.len
 have h2 := h.n
 omega

structure TbS (B : World) (X : Nat) (cur : Array Value) (sv : Value) (ss : List (List UInt8)) (v : Value) (n : Nat) (t : List Rv) (w : World) : Prop where
 len : t.length = n
 tb : DTb B B B w 62 146 v t
 sm : Sml (t.map plR)
 mt : Blk w X 53 cur
 sr : Buf w 9 1 sv ss.length (scs ss)
section
variable {B w : World} {X : Nat} {cur : Array Value} {sv : Value} {ss : List (List UInt8)} {n b o c : Nat} {t : List Rv}
theorem TbS.below {w' : World} {v : Value} (h : TbS B X cur sv ss v n t w) (hb : Below w.heap.size w w') : TbS B X cur sv ss v n t w' := ⟨h.len, h.tb.below hb, h.sm, h.mt.below hb, h.sr.below hb⟩
theorem TbS.at_ {v : Value} (h : TbS B X cur sv ss v n t w) : TbAt w v t := (h.tb.rtb (Below.refl _ _)).tb
theorem TbS.bel {v : Value} (h : TbS B X cur sv ss v n t w) : Below B.heap.size B w := h.tb.n.below
theorem TbS.store (h : TbS B X cur sv ss (.slice (some ⟨b, o, none⟩) n c) n t w) {j : Nat} (hj : j < n * 2) (u : Value) : Buf (w.setCell ⟨b, o + j, none⟩ u) 62 2 (.slice (some ⟨b, o, none⟩) n c) n ((rcs t).set j u) := by
 have hb := h.tb.n.buf
 rw [h.len] at hb
 exact hb.storeN hj u
theorem TbS.swap {p q : Rv} {r : List Rv} (h : TbS B X cur sv ss (.slice (some ⟨b, o, none⟩) n c) n (p :: q :: r) w) : TbS B X cur sv ss (.slice (some ⟨b, o, none⟩) n c) n (q :: p :: r)
  ((((w.setCell ⟨b, o, none⟩ (.slice q.la q.ls.length q.lc)).setCell ⟨b, o + 1, none⟩ (.slice q.sa q.ss.length q.sc)).setCell ⟨b, o + 2, none⟩ (.slice p.la p.ls.length p.lc)).setCell ⟨b, o + 3, none⟩ (.slice p.sa p.ss.length p.sc)) := by
 have hn : n = r.length + 2 := by have := h.len; simpa using this.symm
 have hb0 := h.tb.n.buf
 rw [h.len] at hb0
 have b1 := hb0.storeN (j := 0) (by omega) (.slice q.la q.ls.length q.lc)
 have b2 := b1.storeN (j := 1) (by omega) (.slice q.sa q.ss.length q.sc)
 have b3 := b2.storeN (j := 2) (by omega) (.slice p.la p.ls.length p.lc)
 have b4 := b3.storeN (j := 3) (by omega) (.slice p.sa p.ss.length p.sc)
 have k1 : Ke (fun U => U = 62) w _ := Ke.of_buf (Ts := fun U => U = 62) hb0 (by omega) rfl (o + 0) (.slice q.la q.ls.length q.lc)
 have k2 := k1.trans (Ke.of_buf (Ts := fun U => U = 62) b1 (by omega) rfl (o + 1) (.slice q.sa q.ss.length q.sc))
 have k3 := k2.trans (Ke.of_buf (Ts := fun U => U = 62) b2 (by omega) rfl (o + 2) (.slice p.la p.ls.length p.lc))
 have k4 := k3.trans (Ke.of_buf (Ts := fun U => U = 62) b3 (by omega) rfl (o + 3) (.slice p.sa p.ss.length p.sc))
 have hB := h.tb.n.new b rfl
 have hbl : Below B.heap.size B _ := (((h.tb.n.below.setCell (p := ⟨b, o + 0, none⟩) hB (.slice q.la q.ls.length q.lc)).setCell (p := ⟨b, o + 1, none⟩) hB (.slice q.sa q.ss.length q.sc)).setCell (p := ⟨b, o + 2, none⟩) hB (.slice p.la p.ls.length p.lc)).setCell (p := ⟨b, o + 3, none⟩) hB (.slice p.sa p.ss.length p.sc)
 rw [Nat.add_zero] at b4 k4 hbl
 refine ⟨by simpa using h.len, ⟨⟨?_, hbl, h.tb.n.new⟩, h.tb.b, fun x hx => ?_⟩, h.sm.mem (by simp) (fun x hx => .inl ?_), k4.blk h.mt (by decide), k4.buf h.sr (by decide)⟩
 ·have e : (q :: p :: r).length = n := by simpa using h.len
  rw [e]
  exact b4
 ·refine (h.tb.d x ?_).ke k4 hbl (by decide) (by decide)
  rcases List.mem_cons.1 hx with rfl | hx
  ·exact List.mem_cons_of_mem _ (List.mem_cons_self ..)
  ·rcases List.mem_cons.1 hx with rfl | hx
   ·exact List.mem_cons_self ..
   ·exact List.mem_cons_of_mem _ (List.mem_cons_of_mem _ hx)
 ·simp only [List.map_cons, List.mem_cons] at hx ⊢
  rcases hx with h | h | h
  ·exact .inr (.inl h)
  ·exact .inl h
  ·exact .inr (.inr h)
theorem TbS.none_ {p : Rv} {r : List Rv} (h : TbS B X cur sv ss (.slice (some ⟨b, o, none⟩) n c) n (p :: r) w) : TbS B X cur sv ss (.slice (some ⟨b, o, none⟩) n c) n (⟨p.ls, [], p.la, p.lc, none, 0⟩ :: r)
  (w.setCell ⟨b, o + 1, none⟩ (.slice none 0 0)) := by
 have hn : n = r.length + 1 := by have := h.len; simpa using this.symm
 have hb0 := h.tb.n.buf
 rw [h.len] at hb0
 have b1 := hb0.storeN (j := 1) (by omega) (.slice none 0 0)
 have k1 : Ke (fun U => U = 62) w _ := Ke.of_buf (Ts := fun U => U = 62) hb0 (by omega) rfl (o + 1) (.slice none 0 0)
 have hB := h.tb.n.new b rfl
 have hbl : Below B.heap.size B _ := h.tb.n.below.setCell (p := ⟨b, o + 1, none⟩) hB (.slice none 0 0)
 refine ⟨by simpa using h.len, ⟨⟨?_, hbl, h.tb.n.new⟩, h.tb.b, fun x hx => ?_⟩, h.sm.mem (by simp) (fun x hx => ?_), k1.blk h.mt (by decide), k1.buf h.sr (by decide)⟩
 ·have e : ((⟨p.ls, [], p.la, p.lc, none, 0⟩ : Rv) :: r).length = n := by simpa using h.len
  rw [e]
  exact b1
 ·rcases List.mem_cons.1 hx with rfl | hx
  ·have hd := (h.tb.d p (List.mem_cons_self ..)).ke k1 hbl (by decide) (by decide)
   exact ⟨hd.1, .inl (SlAt.none0 B 2)⟩
  ·exact (h.tb.d x (List.mem_cons_of_mem _ hx)).ke k1 hbl (by decide) (by decide)
 ·simp only [List.map_cons, List.mem_cons] at hx ⊢
  rcases hx with h | h
  ·exact .inr ⟨plR p, .inl rfl, h⟩
  ·exact .inl (.inr h)
end
end Go.Proofs.YtgabmfibfikdbaaGreatDoor

set_option maxHeartbeats 32000000
set_option maxRecDepth 10000
namespace Go.Proofs.YtgabmfibfikdbaaGreatDoor
open Go.RowKit Go.Bar Go.Bar.Leb Go.Bar.Frm

theorem ref_yes {D y : Nat} (hD : D < 4294967296) (h : (((D : Int) + (y : Int)) % 2 == 1) = true) : bits .xor .u32 ((D : Int) / 2) 2197175160 = ((bstep D y : Nat) : Int) := by
 rw [beq_iff_eq] at h
 unfold bstep
 rw [if_pos (by omega)]
 have := u32_xor_nat (D / 2) 2197175160 (by omega) (by omega)
 rw [<- this]
 rfl
theorem ref_no {D y : Nat} (h : (((D : Int) + (y : Int)) % 2 == 1) = false) : (D : Int) / 2 = ((bstep D y : Nat) : Int) := by
 rw [beq_eq_false_iff_ne] at h
 unfold bstep
 rw [if_neg (by omega)]
 rfl

theorem refSum_any (s : ByteArray) (w : World) (hs : s.size <= 1000000000000) :
  Calls Tryz.prog 66 #[.string s] w (RetBelow w (.int .u32 (sum s.data.toList))) := by
 go_enter Tryz.func66, Tryz.ntmps66
 go_wp2_with ((with_reducible refine wpList_bytes rfl (.tmp 8) 96 9 rfl bytes_ty Tryz.underlying9 s rfl (by unfold maxLen; omega) ?_); intro v w1 hb hbl hown; obtain ⟨A, c, rfl, hle⟩ := Buf.shape hb; clear hown)
 go_loop [3, 11] (fun c i => ∃ k C : Nat, k <= s.data.toList.length /\ i = .int .i64 k /\ C < 4294967296 /\ c = .int .u32 C /\ Hid (C = crc (no 0) (s.data.toList.take k))) (fun _ i => s.data.toList.length - (intOf i).toNat)
 case atStart => exact ⟨0, 4294967295, Nat.zero_le _, rfl, by omega, rfl, rfl⟩
 case round =>
  obtain ⟨k, C, hk, rfl, hC, rfl, HC⟩ := hrel
  by_cases hlt : k < s.data.toList.length
  ·obtain ⟨b, o, rfl, hbw, hc⟩ := Buf.cell hb (by omega)
   obtain ⟨x, hx⟩ : ∃ x, s.data.toList[k]? = some x := ⟨_, List.getElem?_eq_getElem hlt⟩
   have hck : w1.cell? ⟨b, o + k, none⟩ = some (.int .u8 x.toNat) := by rw [hc k (by omega)]; simp only [bcs, List.getElem?_map, hx]; rfl
   have hx2 := UInt8.toNat_lt x
   have HX := Lib.hid hx
   clear hc hx
   go_wp2
   go_loop [3, 5, 6] (fun c b i => ∃ j D y : Nat, j <= 8 /\ i = .int .i64 j /\ D < 4294967296 /\ y < 256 /\ c = .int .u32 D /\ b = .int .u8 y /\ Hid (D = bsteps j C x.toNat /\ y = x.toNat / 2 ^ j)) (fun _ _ i => 8 - (intOf i).toNat)
   case atStart => exact ⟨0, C, x.toNat, by omega, rfl, hC, hx2, rfl, rfl, rfl, by simp⟩
   case round =>
    obtain ⟨j, D, y, hj, rfl, hD, hy, rfl, rfl, HD⟩ := hrel
    by_cases hj8 : j < 8
    ·go_wp2
     all_goals
      go_round
      case rel => exact ⟨j + 1, bstep D y, y / 2, by omega, by go_num, bstep_lt hD, by omega, by first | rw [ref_yes hD (by assumption)] | rw [ref_no (by assumption)], rfl, by rw [HD.out.1, HD.out.2]; rfl, by rw [HD.out.2, Nat.div_div_eq_div_mul, Nat.pow_succ]⟩
      case measure => simp [intOf]; omega
    ·obtain rfl : j = 8 := by omega
     go_wp2
     go_round
     case rel => exact ⟨k + 1, D, by omega, by go_num, hD, rfl, by
      obtain ⟨h1, h2⟩ := List.getElem?_eq_some_iff.1 HX.out
      show D = _
      rw [HD.out.1, HC.out, List.take_succ_eq_append_getElem h1, crc_snoc, h2]⟩
     case measure => simp [intOf]; omega
  ·go_wp2
   go_ret
   refine ⟨?_, hbl⟩
   rw [List.take_of_length_le (by omega)] at HC
   have := crc_lt s.data.toList (no_lt 0)
   have e : (4294967295 - (C : Int)) = ((sum s.data.toList : Nat) : Int) := by
    rw [HC.out]; unfold sum more
    show _ = ((4294967295 - crc (no 0) s.data.toList : Nat) : Int)
    omega
   rw [<- e]
   rfl

theorem sum4_next (S j : Nat) (h : j < 4) : (sum4 S).take (j + 1) = (sum4 S).take j ++ [UInt8.ofNat (S / 256 ^ j)] := by
 rcases j with _ | _ | _ | _ | j <;> first | (exfalso; omega) | simp [sum4]

theorem refBytes_any (k : UInt8) (d : List UInt8) (W : World) (hd : d.length <= 100000000000) :
  Calls Tryz.prog 53 #[.agg #[.int .u8 k.toNat, .string (bs d)]] W (RetBelow W (.string (bs (rec (k, d))))) := by
 have hc1 := conv_one bytes_ty 9 Tryz.underlying9 (W.alloc (.cells #[.int .u8 k.toNat, .string (bs d)] 108)) (k.toNat : Int) k rfl
 rw [show (W.alloc (.cells #[.int .u8 k.toNat, .string (bs d)] 108)).heap.size = W.heap.size + 1 by simp] at hc1
 have hul := u_len d.length (by omega)
 go_enter Tryz.func53, Tryz.ntmps53
 go_wp2_with fail
 refine (refSum_any (bs (k :: d)) _ (by rw [bs_size]; simp; omega)).mono ?_
 rintro e w1 ⟨rfl, hb1⟩
 have c1 : w1.cell? ⟨W.heap.size, 1, none⟩ = some (.string (bs d)) := by rw [hb1.cell (by simp; omega)]; simp
 have hbl : Below (W.alloc (.cells #[.int .u8 k.toNat, .string (bs d)] 108)).heap.size (W.alloc (.cells #[.int .u8 k.toNat, .string (bs d)] 108)) w1 := ((Below.refl _ _).alloc (Nat.le_refl _) _).trans (hb1.mono (by simp))
 clear hb1 hc1
 go_wp2_with fail
 refine (refUint_any d.length _ (by omega)).mono ?_
 rintro e w2 ⟨rfl, hb2⟩
 have hbl := below_trans hbl hb2
 clear hb2 c1
 have hS := sum_lt (k :: d)
 rw [bs_data]
 obtain ⟨S, hSe⟩ : ∃ S, S = sum (k :: d) := ⟨_, rfl⟩
 rw [<- hSe] at hS ⊢
 have HS := Lib.hid hSe
 clear hSe
 go_wp2_with fail
 go_loopw [4, 5, 6] (fun m s i wr => ∃ (j M : Nat), j <= 4 /\ i = .int .i64 j /\ M < 4294967296 /\ m = .int .u32 M /\ s = .string (bs (k :: (u d.length ++ (sum4 S).take j))) /\ Hid (M = S / 256 ^ j) /\ Below (W.alloc (.cells #[.int .u8 k.toNat, .string (bs d)] 108)).heap.size (W.alloc (.cells #[.int .u8 k.toNat, .string (bs d)] 108)) wr)
  (fun _ _ i _ => 4 - (intOf i).toNat)
 case atStart => exact ⟨0, S, by omega, rfl, hS, rfl, by simp, (by simp : S = S / 256 ^ 0), hbl⟩
 case round =>
  obtain ⟨j, M, hj, rfl, hM, rfl, rfl, HM, hbr⟩ := hrel
  clear hbl
  have c1 : wr.cell? ⟨W.heap.size, 1, none⟩ = some (.string (bs d)) := by rw [hbr.cell (by simp)]; simp
  by_cases hj4 : j < 4
  ·have hc1 := fun w => conv_one bytes_ty 9 Tryz.underlying9 w ((M : Int) % 256) (UInt8.ofNat M) (by simp)
   go_wp2_with fail
   go_roundw
   case rel => exact ⟨j + 1, M / 256, by omega, by go_num, by omega, rfl, by rw [sum4_next S j hj4, HM.out], (by rw [HM.out, Nat.div_div_eq_div_mul, Nat.pow_succ] : M / 256 = S / 256 ^ (j + 1)), hbr.alloc hbr.size _⟩
   case measure => simp [intOf]; omega
  ·obtain rfl : j = 4 := by omega
   go_wp2_with fail
   go_ret
   refine ⟨?_, ((Below.refl _ _).alloc (Nat.le_refl _) _).trans (hbr.mono (by simp))⟩
   have e : bs (k :: (u d.length ++ (sum4 S ++ d))) = bs (rec (k, d)) := by simp [rec, rsum, HS.out]
   rw [<- e]
   rfl

end Go.Proofs.YtgabmfibfikdbaaGreatDoor
