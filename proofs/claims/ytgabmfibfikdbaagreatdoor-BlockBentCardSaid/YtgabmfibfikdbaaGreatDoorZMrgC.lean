/-
  Layer 14: the walk of the reference's Add.
-/
import Derived.Test.YtgabmfibfikdbaaGreatDoorZLabU

namespace Go.Proofs.YtgabmfibfikdbaaGreatDoor
open Go.RowKit Go.Bar Go.Bar.Leb Go.Bar.Lab Go.Bar.Xor Go.Bar.Mrg

theorem nbuf_lit {W w : World} (hb : Below W.heap.size W w) (e : TypeId) (sz k : Nat) (news : List Value) (hl : news.length = k * sz) (hk : k ≤ maxLen) : NBuf W (w.alloc (.cells news.toArray e)) e sz (.slice (some ⟨w.heap.size, 0, none⟩) k k) k news :=
  ⟨Buf.lit w e sz k news hl hk, hb.alloc hb.size _, fun q hq => by simp [Value.ownBlock] at hq; subst hq; exact hb.size⟩
section
variable {B W0 W w : World} {T Tp : TypeId} {v : Value} {t : List Rv} {X : Nat} {cur : Array Value}
/-- a store into a block of the table's own type that is another one -/
theorem DTb.setX (h : DTb B W0 W w T Tp v t) (hX : Blk w X T cur) (hW : W.heap.size ≤ X) (hv : v.ownBlock ≠ some X) (h1 : Tp ≠ T) (h2 : 41 ≠ T) (i : Nat) (u : Value) : DTb B W0 W (w.setCell ⟨X, i, none⟩ u) T Tp v t := by
  have hk : Ke (fun U => U = T) w (w.setCell ⟨X, i, none⟩ u) := Ke.of_set (Ts := fun U => U = T) hX rfl i u
  have hb : Below W0.heap.size W0 (w.setCell ⟨X, i, none⟩ u) := (below_trans h.b h.n.below).setCell (p := ⟨X, i, none⟩) (Nat.le_trans h.b.size hW) _
  exact ⟨h.n.set_blk hW hv i u, h.b, fun x hx => (h.d x hx).ke hk hb h1 h2⟩
end
/-- a call that hands back such a table -/
def RetDt (B W0 w : World) (T Tp : TypeId) (R : List Row) (e : Ending) (w' : World) : Prop := ∃ v t, e = .returned v ∧ DTb B W0 w w' T Tp v t ∧ t.map plR = R
section
variable {L : List Pr} {s : Sm} {r : Row} {R : List Row}
theorem addG_t0 (h : cmpL L r.1 = 0) : addG L s true (r :: R) = (r.1, putS r.2 s) :: addG L s true R := by
  show (if cmpL L r.1 = 0 then _ else r) :: _ = _
  rw [if_pos h]
theorem addG_t1 (h : ¬ cmpL L r.1 = 0) : addG L s true (r :: R) = r :: addG L s true R := by
  show (if cmpL L r.1 = 0 then _ else r) :: _ = _
  rw [if_neg h]
theorem addG_f0 (h : cmpL L r.1 = 0) : addG L s false (r :: R) = (r.1, putS r.2 s) :: addG L s true R := by
  show (if cmpL L r.1 = 0 then _ else _ : List Row) = _
  rw [if_pos h]
theorem addG_f1 (h : cmpL L r.1 < 0) : addG L s false (r :: R) = (L, [s]) :: r :: addG L s true R := by
  show (if cmpL L r.1 = 0 then _ else if cmpL L r.1 < 0 then _ else _ : List Row) = _
  rw [if_neg (by omega), if_pos h]
theorem addG_f2 (h : 0 < cmpL L r.1) : addG L s false (r :: R) = r :: addG L s false R := by
  show (if cmpL L r.1 = 0 then _ else if cmpL L r.1 < 0 then _ else _ : List Row) = _
  rw [if_neg (by omega), if_neg (by omega)]
end

set_option maxHeartbeats 16000000 in
set_option maxRecDepth 10000 in
theorem radd_any (B W0 : World) (v lv : Value) (t : List Rv) (L : List Pr) (s : Sm) (w : World) (h : TbAt w v t) (hL : PsAt w lv L) (hB0 : Below W0.heap.size W0 w) (hd : ∀ x ∈ t, Deep B W0 w 146 x) (hLd : PsAt B lv L ∨ NBuf W0 w 146 2 lv L.length (pcs L)) (hl : t.length ≤ 1000000) (hs : ∀ x ∈ t, x.ss.length ≤ 1000000) :
    Calls Tryz.prog 55 #[v, lv, .agg #[.int .i64 s.1, .int .u64 (s.2 : Nat)]] w (RetDt B W0 w 62 146 (addR (t.map plR) L s)) := by
  obtain ⟨A, c, rfl, hlc, hcm⟩ := h.shape
  obtain ⟨LA, Lc, rfl, hLc, hLm⟩ := hL.shape
  unfold maxLen at hcm hLm
  obtain ⟨R, hR⟩ : ∃ R, R = addR (t.map plR) L s := ⟨_, rfl⟩
  rw [← hR]
  obtain ⟨W, hW⟩ : ∃ W, W = w.alloc (.cells #[.int .i64 s.1, .int .u64 (s.2 : Nat)] 41) := ⟨_, rfl⟩
  have hbW : Below w.heap.size w W := by rw [hW]; exact below_alloc1 _ _
  have hbox : Blk W w.heap.size 41 #[.int .i64 s.1, .int .u64 (s.2 : Nat)] := by rw [hW]; exact Blk.new _ _ _
  have HT := Lib.hid (h.below hbW)
  have HPL := Lib.hid hL
  have HT0 := Lib.hid h
  have HB0 := Lib.hid hB0
  have HDP := Lib.hid hd
  have HLD := Lib.hid hLd
  have HR := Lib.hid hR
  have HBW := Lib.hid hbW
  have HBX := Lib.hid hbox
  have HSL := Lib.hid hs
  have hWs : W.heap.size = w.heap.size + 1 := by rw [hW]; simp
  have hn0 := NBuf.lit0 (Below.refl W.heap.size W) 62 2
  rw [hWs] at hn0
  have HN0 : Hid (DTb B W0 W (W.alloc (.cells #[] 62)) 62 146 (.slice (some ⟨w.heap.size + 1, 0, none⟩) 0 0) []) := Lib.hid ⟨hn0, below_trans hB0 hbW, fun x hx => by cases hx⟩
  have HWS := Lib.hid hWs
  clear h hR hbW hbox hn0 hWs hL hs hB0 hd hLd
  go_enter Tryz.func55, Tryz.ntmps55
  go_wp2_with fail
  rw [← hW]
  clear hW
  go_loopw [7, 8, 15] (fun d f i wr => ∃ (k : Nat) (b : Bool) (O : List Rv), k ≤ t.length ∧ i = .int .i64 k ∧ f = .bool b ∧ O.length ≤ k + b.toNat ∧ Hid (DTb B W0 W wr 62 146 d O) ∧ Hid (∀ q, d.ownBlock = some q → q < wr.heap.size) ∧ Hid (R = O.map plR ++ addG L s b ((t.map plR).drop k))) (fun _ _ i _ => t.length - (intOf i).toNat)
  case atStart => exact ⟨0, false, [], Nat.zero_le _, rfl, rfl, Nat.zero_le _, HN0, Lib.hid (fun q hq => by simp [Value.ownBlock] at hq; subst hq; simp [HWS.out]), Lib.hid HR.out⟩
  case round =>
    obtain ⟨k, b, O, hk, rfl, rfl, hO, HNB, HOW, HRR⟩ := hrel
    obtain ⟨fA, fc, rfl, hfc⟩ := HNB.out.n.buf.shape
    have hbw := HNB.out.n.below
    clear HN0 HR
    by_cases hgo : k < t.length
    · obtain ⟨x, hx⟩ : ∃ x, t[k]? = some x := ⟨_, List.getElem?_eq_getElem hgo⟩
      obtain ⟨xb, xo, rfl, x0, x1, hrx⟩ := (HT.out.below hbw).at_ hx
      have hdr : (t.map plR).drop k = plR x :: (t.map plR).drop (k + 1) := by
        have hx2 : (t.map plR)[k]? = some (plR x) := by rw [List.getElem?_map, hx]; rfl
        obtain ⟨hlt, he⟩ := List.getElem?_eq_some_iff.1 hx2
        rw [List.drop_eq_getElem_cons hlt, he]
      have hrr := HRR.out
      rw [hdr] at hrr
      have hxs := HSL.out x (List.mem_of_getElem? hx)
      have HRX := Lib.hid (HT0.out.2 x (List.mem_of_getElem? hx))
      have HDX := Lib.hid (fun w' (hb : Below w.heap.size w w') => (HDP.out x (List.mem_of_getElem? hx)).below hb)
      obtain ⟨wx, hwx⟩ : ∃ wx, wx = wr.alloc (.cells #[.slice x.la x.ls.length x.lc, .slice x.sa x.ss.length x.sc] 62) := ⟨_, rfl⟩
      have hbx : Below wr.heap.size wr wx := by rw [hwx]; exact below_alloc1 _ _
      have HXB : Hid (Blk wx wr.heap.size 62 #[.slice x.la x.ls.length x.lc, .slice x.sa x.ss.length x.sc]) := Lib.hid (by rw [hwx]; exact Blk.new _ _ _)
      have HNX := Lib.hid (HNB.out.below hbx)
      have HNE := Lib.hid (fun (q : Nat) (h : (Value.slice fA O.length fc).ownBlock = some q) => Nat.ne_of_lt (HOW.out q h))
      have hWX := hbw.size
      have hbWx := below_trans hbw hbx
      obtain ⟨Z, hZ⟩ : ∃ Z, Z = cmpL L x.ls := ⟨_, rfl⟩
      have hcm := rcompare_any (.slice LA L.length Lc) (.slice x.la x.ls.length x.lc) L x.ls wx (HPL.out.below (below_trans HBW.out hbWx)) (HRX.out.1.below (below_trans HBW.out hbWx))
      rw [← hZ] at hcm
      have HCM := Lib.hid hcm
      obtain ⟨y0, y1⟩ := HXB.out.c2
      have hO2 : O.length ≤ k + 1 := by cases b <;> simp at hO <;> omega
      clear hdr hx hcm hrx HNB HOW
      go_upto_region 6 with fail
      rw [← hwx]
      obtain ⟨X, hX⟩ : ∃ X, X = wr.heap.size := ⟨_, rfl⟩
      rw [← hX] at HXB HNE hWX y0 y1 ⊢
      clear hwx hX
      go_wp2_with fail
      refine HCM.out.mono ?_
      rintro e w1 ⟨rfl, hb1⟩
      have HN1 := Lib.hid (HNX.out.below hb1)
      have HX1 := Lib.hid (HXB.out.below hb1)
      have hbW1 := below_trans hbWx hb1
      obtain ⟨z0, z1⟩ := HX1.out.c2
      obtain ⟨c0, c1⟩ := (HBX.out.below hbW1).c2
      have hcase : (b = true ∧ Z = 0) ∨ (b = true ∧ Z ≠ 0) ∨ (b = false ∧ Z = 0) ∨ (b = false ∧ Z < 0) ∨ (b = false ∧ 0 < Z) := by
        cases b
        · rcases Int.lt_trichotomy Z 0 with h1 | h1 | h1
          · exact .inr (.inr (.inr (.inl ⟨rfl, h1⟩)))
          · exact .inr (.inr (.inl ⟨rfl, h1⟩))
          · exact .inr (.inr (.inr (.inr ⟨rfl, h1⟩)))
        · by_cases h1 : Z = 0
          · exact .inl ⟨rfl, h1⟩
          · exact .inr (.inl ⟨rfl, h1⟩)
      have HZ := Lib.hid hZ
      clear HNX HXB hbx HCM y0 y1 hb1 hbWx hbw hZ x0 x1
      rcases hcase with ⟨rfl, hc⟩ | ⟨rfl, hc⟩ | ⟨rfl, hc⟩ | ⟨rfl, hc⟩ | ⟨rfl, hc⟩
      case inr.inl =>
        rw [addG_t1 (by rw [← show Z = cmpL L (plR x).1 from HZ.out]; exact hc)] at hrr
        have HR2 := Lib.hid hrr
        have he : (Z == 0) = false := by rw [beq_eq_false_iff_ne]; exact hc
        clear hrr HRR
        go_wp2_with (at_builtin; refine wpList_append_nlit rfl (.tmp 43) (.tmp 45) 57 rfl rrow_ty rfl HN1.out.n rfl (by simp) rfl (by simp [Value.oneCell']) (by simp only [maxLen]; omega) (by omega) ?_; intro v3 w3 hn3 ha3; have HD3 := Lib.hid (DTb.snoc (HN1.out.below (below_alloc1 _ _)) (HDX.out _ (below_trans HBW.out (below_trans hbW1 (below_alloc1 _ _)))) hn3 ha3 (by decide) (by decide)); clear hn3 ha3)
        go_roundw
        case rel => exact ⟨k + 1, true, O ++ [x], by omega, by go_num, rfl, by simp at hO ⊢; omega, HD3, Lib.hid (HD3.out.n.lt (by simp)), Lib.hid (by rw [HR2.out, List.map_append, List.append_assoc]; rfl)⟩
        case measure => simp [intOf]; omega
      case inr.inr.inr.inr =>
        rw [addG_f2 (by rw [← show Z = cmpL L (plR x).1 from HZ.out]; exact hc)] at hrr
        have HR2 := Lib.hid hrr
        have he : (Z == 0) = false := by rw [beq_eq_false_iff_ne]; omega
        have hd : decide (Z < 0) = false := decide_eq_false (by omega)
        clear hrr HRR
        go_wp2_with (at_builtin; refine wpList_append_nlit rfl (.tmp 43) (.tmp 45) 57 rfl rrow_ty rfl HN1.out.n rfl (by simp) rfl (by simp [Value.oneCell']) (by simp only [maxLen]; omega) (by omega) ?_; intro v3 w3 hn3 ha3; have HD3 := Lib.hid (DTb.snoc (x := x) (HN1.out.below (below_alloc1 _ _)) (HDX.out _ (below_trans HBW.out (below_trans hbW1 (below_alloc1 _ _)))) hn3 ha3 (by decide) (by decide)); clear hn3 ha3)
        go_roundw
        case rel => exact ⟨k + 1, false, O ++ [x], by omega, by go_num, rfl, by simp at hO ⊢; omega, HD3, Lib.hid (HD3.out.n.lt (by simp)), Lib.hid (by rw [HR2.out, List.map_append, List.append_assoc]; rfl)⟩
        case measure => simp [intOf]; omega
      case inl =>
        subst hc
        rw [addG_t0 HZ.out.symm] at hrr
        have HR2 := Lib.hid hrr
        have hput := rput_any (.slice x.sa x.ss.length x.sc) x.ss s w1 (HRX.out.2.below (below_trans HBW.out hbW1)) hxs
        have HPUT := Lib.hid hput
        clear hrr HRR hput
        go_wp2_with fail
        refine HPUT.out.mono ?_
        rintro e w2 ⟨pv, rfl, hpn⟩
        obtain ⟨pA, pc, rfl, hpc⟩ := hpn.buf.shape
        have hX2 := HX1.out.below hpn.below
        have HN2 := Lib.hid ((HN1.out.below hpn.below).setX hX2 hWX (fun e => HNE.out _ e rfl) (by decide) (by decide) 1 (.slice pA (putS x.ss s).length pc))
        have HP2 := Lib.hid (nbuf_ke (hpn.after (below_trans HB0.out (below_trans HBW.out hbW1))) (Ke.of_set (Ts := fun U => U = 62) hX2 rfl 1 (.slice pA (putS x.ss s).length pc)) (below_trans HB0.out (below_trans HBW.out HN2.out.n.below)) (by decide))
        have HDX2 := Lib.hid (HDX.out _ (below_trans HBW.out (below_trans HN2.out.n.below (below_alloc1 _ (.cells #[.slice x.la x.ls.length x.lc, .slice pA (putS x.ss s).length pc] 62)))))
        obtain ⟨PS, hPS⟩ : ∃ PS, PS = putS x.ss s := ⟨_, rfl⟩
        obtain ⟨u0, u1⟩ := hX2.c2
        have u2 := hX2.free 1
        rw [← hPS] at HN2 HP2 HDX2 ⊢
        have HPS := Lib.hid hPS
        clear hX2 hpn z0 z1 c0 c1 HN1 hPS
        go_wp2_with (at_builtin; refine wpList_append_nlit rfl (.tmp 43) (.tmp 45) 57 rfl rrow_ty rfl HN2.out.n rfl (by simp) rfl (by simp [Value.oneCell']) (by simp only [maxLen]; omega) (by omega) ?_; intro v3 w3 hn3 ha3; have HD3 := Lib.hid (DTb.snoc (x := ⟨x.ls, PS, x.la, x.lc, pA, pc⟩) (HN2.out.below (below_alloc1 _ _)) (⟨(HDX2.out).1, .inr (HP2.out.alloc _)⟩) hn3 ha3 (by decide) (by decide)); clear hn3 ha3)
        go_roundw
        case rel => exact ⟨k + 1, true, _, by omega, by go_num, rfl, by simp at hO ⊢; omega, HD3, Lib.hid (HD3.out.n.lt (by simp)), Lib.hid (by rw [HR2.out, List.map_append, List.append_assoc, HPS.out]; rfl)⟩
        case measure => simp [intOf]; omega
      case inr.inr.inl =>
        subst hc
        rw [addG_f0 HZ.out.symm] at hrr
        have HR2 := Lib.hid hrr
        have hput := rput_any (.slice x.sa x.ss.length x.sc) x.ss s w1 (HRX.out.2.below (below_trans HBW.out hbW1)) hxs
        have HPUT := Lib.hid hput
        clear hrr HRR hput
        go_wp2_with fail
        refine HPUT.out.mono ?_
        rintro e w2 ⟨pv, rfl, hpn⟩
        obtain ⟨pA, pc, rfl, hpc⟩ := hpn.buf.shape
        have hX2 := HX1.out.below hpn.below
        have HN2 := Lib.hid ((HN1.out.below hpn.below).setX hX2 hWX (fun e => HNE.out _ e rfl) (by decide) (by decide) 1 (.slice pA (putS x.ss s).length pc))
        have HP2 := Lib.hid (nbuf_ke (hpn.after (below_trans HB0.out (below_trans HBW.out hbW1))) (Ke.of_set (Ts := fun U => U = 62) hX2 rfl 1 (.slice pA (putS x.ss s).length pc)) (below_trans HB0.out (below_trans HBW.out HN2.out.n.below)) (by decide))
        have HDX2 := Lib.hid (HDX.out _ (below_trans HBW.out (below_trans HN2.out.n.below (below_alloc1 _ (.cells #[.slice x.la x.ls.length x.lc, .slice pA (putS x.ss s).length pc] 62)))))
        obtain ⟨PS, hPS⟩ : ∃ PS, PS = putS x.ss s := ⟨_, rfl⟩
        obtain ⟨u0, u1⟩ := hX2.c2
        have u2 := hX2.free 1
        rw [← hPS] at HN2 HP2 HDX2 ⊢
        have HPS := Lib.hid hPS
        clear hX2 hpn z0 z1 c0 c1 HN1 hPS
        go_wp2_with (at_builtin; refine wpList_append_nlit rfl (.tmp 43) (.tmp 45) 57 rfl rrow_ty rfl HN2.out.n rfl (by simp) rfl (by simp [Value.oneCell']) (by simp only [maxLen]; omega) (by omega) ?_; intro v3 w3 hn3 ha3; have HD3 := Lib.hid (DTb.snoc (x := ⟨x.ls, PS, x.la, x.lc, pA, pc⟩) (HN2.out.below (below_alloc1 _ _)) (⟨(HDX2.out).1, .inr (HP2.out.alloc _)⟩) hn3 ha3 (by decide) (by decide)); clear hn3 ha3)
        go_roundw
        case rel => exact ⟨k + 1, true, _, by omega, by go_num, rfl, by simp at hO ⊢; omega, HD3, Lib.hid (HD3.out.n.lt (by simp)), Lib.hid (by rw [HR2.out, List.map_append, List.append_assoc, HPS.out]; rfl)⟩
        case measure => simp [intOf]; omega
      case inr.inr.inr.inl =>
        rw [addG_f1 (by rw [← show Z = cmpL L (plR x).1 from HZ.out]; exact hc)] at hrr
        have HR2 := Lib.hid hrr
        have he : (Z == 0) = false := by rw [beq_eq_false_iff_ne]; omega
        have hd : decide (Z < 0) = true := decide_eq_true hc
        have hn2 := (HN1.out.below (below_alloc1 w1 (.cells #[.int .i64 s.1, .int .u64 (s.2 : Nat)] 41)))
        have hlit := nbuf_lit (W := W0) (w := w1) (below_trans HB0.out (below_trans HBW.out hbW1)) 41 2 1 (smc [s]) rfl (by decide)
        have HN2 := Lib.hid hn2
        have HLT := Lib.hid hlit
        have HX2 := Lib.hid (HX1.out.below (below_alloc1 w1 (.cells #[.int .i64 s.1, .int .u64 (s.2 : Nat)] 41)))
        clear hrr HRR hn2 hlit
        go_wp2_with (at_builtin; first | (refine wpList_append_nlit rfl (.tmp 36) (.tmp 41) 57 rfl rrow_ty rfl HN2.out.n rfl (by simp) rfl (by simp [Value.oneCell']) (by simp only [maxLen]; omega) (by omega) ?_; intro v2 w2 hn2 ha2; have hd2 := DTb.snoc (x := ⟨L, [s], LA, Lc, some ⟨w1.heap.size, 0, none⟩, 1⟩) (HN2.out.below (below_alloc1 _ _)) ⟨HLD.out.imp id (fun h => h.then_below (below_trans HBW.out (below_trans HN2.out.n.below (below_alloc1 _ _)))), .inr (HLT.out.alloc _)⟩ hn2 ha2 (by decide) (by decide); have hx2 := (blk_ap (HX2.out.alloc _) ha2 (fun e => HNE.out _ e rfl)).c2; have HD2 := Lib.hid hd2; obtain ⟨u0, u1⟩ := hx2; clear hn2 ha2 hd2) | (refine wpList_append_nlit rfl (.tmp 43) (.tmp 45) 57 rfl rrow_ty rfl HD2.out.n rfl (by simp) rfl (by simp [Value.oneCell']) (by simp only [maxLen, List.length_append, List.length_cons, List.length_nil]; omega) (by simp only [List.length_append, List.length_cons, List.length_nil]; omega) ?_; intro v3 w3 hn3 ha3; have HD3 := Lib.hid (DTb.snoc (x := x) (HD2.out.below (below_alloc1 _ _)) (HDX.out _ (below_trans HBW.out (below_trans HD2.out.n.below (below_alloc1 _ _)))) hn3 ha3 (by decide) (by decide)); clear hn3 ha3))
        go_roundw
        case rel => exact ⟨k + 1, true, _, by omega, by go_num, rfl, by simp at hO ⊢; omega, HD3, Lib.hid (HD3.out.n.lt (by simp)), Lib.hid (by rw [HR2.out, List.map_append, List.map_append, List.append_assoc, List.append_assoc]; rfl)⟩
        case measure => simp [intOf]; omega
    · obtain rfl : k = t.length := by omega
      have hrr := HRR.out
      rw [List.drop_of_length_le (by rw [List.length_map]; exact Nat.le_refl _)] at hrr
      have hO2 : O.length ≤ t.length + 1 := by cases b <;> simp at hO <;> omega
      obtain ⟨c0, c1⟩ := (HBX.out.below hbw).c2
      rcases b with _ | _
      · have hrr : R = O.map plR ++ [(L, [s])] := hrr
        have HR2 := Lib.hid hrr
        have HN2 := Lib.hid (HNB.out.below (below_alloc1 wr (.cells #[.int .i64 s.1, .int .u64 (s.2 : Nat)] 41)))
        have HLT := Lib.hid (nbuf_lit (W := W0) (w := wr) (below_trans HB0.out (below_trans HBW.out hbw)) 41 2 1 (smc [s]) rfl (by decide))
        clear hrr HRR
        go_wp2_with (at_builtin; refine wpList_append_nlit rfl (.tmp 50) (.tmp 55) 57 rfl rrow_ty rfl HN2.out.n rfl (by simp) rfl (by simp [Value.oneCell']) (by simp only [maxLen]; omega) (by omega) ?_; intro v2 w2 hn2 ha2; have hd2 := DTb.snoc (x := ⟨L, [s], LA, Lc, some ⟨wr.heap.size, 0, none⟩, 1⟩) (HN2.out.below (below_alloc1 _ _)) ⟨HLD.out.imp id (fun h => h.then_below (below_trans HBW.out (below_trans HN2.out.n.below (below_alloc1 _ _)))), .inr (HLT.out.alloc _)⟩ hn2 ha2 (by decide) (by decide); have HD2 := Lib.hid hd2; clear hn2 ha2 hd2)
        go_ret
        exact ⟨_, _, rfl, HD2.out.after HBW.out HB0.out, by rw [List.map_append, HR2.out]; rfl⟩
      · have hrr : R = O.map plR := by rw [hrr]; exact List.append_nil _
        have HR2 := Lib.hid hrr
        clear hrr HRR
        go_wp2_with fail
        go_ret
        exact ⟨_, _, rfl, HNB.out.after HBW.out HB0.out, HR2.out.symm⟩
end Go.Proofs.YtgabmfibfikdbaaGreatDoor
