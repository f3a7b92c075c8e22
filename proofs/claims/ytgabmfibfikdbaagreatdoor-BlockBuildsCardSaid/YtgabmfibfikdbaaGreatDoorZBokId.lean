/-
 Layer 16: what (Files).Table leaves.
-/
import Derived.Test.YtgabmfibfikdbaaGreatDoorZBokP
import Derived.Test.YtgabmfibfikdbaaGreatDoorZXorD
import Derived.Test.YtgabmfibfikdbaaGreatDoorZBokF
import Derived.Test.YtgabmfibfikdbaaGreatDoorZLabT
import Derived.Test.YtgabmfibfikdbaaGreatDoorZLabB
import Derived.Test.YtgabmfibfikdbaaGreatDoorZLib12
import Derived.Test.YtgabmfibfikdbaaGreatDoorZLib24
import Derived.Deep.RegionLaw

namespace Go.Proofs.YtgabmfibfikdbaaGreatDoor
open Go.RowKit Go.Bar Go.Bar.Leb Go.Bar.Frm Go.Bar.Lab Go.Bar.Xor Go.Bar.Mrg Go.Bar.Met Go.Bar.Bok

def RetTbE (w : World) (R : List Row × Nat) (e : Ending) (w' : World) : Prop := ∃ v t, e = .returned (.tuple #[v, .int .i64 (R.2 : Nat)]) /\ RTb w w' 94 v t /\ t.map plR = R.1
theorem RetTbE.no {w w' : World} {e : Nat} (h : Below w.heap.size w w') : RetTbE w ([], e) (.returned (.tuple #[.slice none 0 0, .int .i64 (e : Nat)])) w' := ⟨_, [], rfl, ⟨NBuf.nil h _ _, fun x hx => by cases hx⟩, rfl⟩

theorem first_at2 {l : List Sm} {y : Sm} (h : l[0]? = some y) : first l = y.1 := by
 cases l with
 | nil => simp at h
 | cons x r => injection h with h; rw [<- h]; rfl
theorem last_at2 {l : List Sm} {q : Nat} {z : Sm} (hl : l.length = q + 1) (h : l[q]? = some z) : last l = z.1 := by
 unfold last
 rw [List.getLastD_eq_getLast?, List.getLast?_eq_getElem?, hl]
 show ((l[q]?).getD (0, 0)).1 = z.1
 rw [h]; rfl
theorem tRows_at {mn mx : Int} {C : List UInt8} {l : List En} {k a : Nat} {out : List Row} {x : En} (h : l[k]? = some x) : tRows mn mx C (l.drop k) a out =
  (if x.fr ≠ a \/ (C.length : Int) - a < x.n then ([], 0, 3)
  else if (smpsR ((C.drop a).take x.n.toNat)).2 ≠ 0 then ([], 0, (smpsR ((C.drop a).take x.n.toNat)).2)
  else if (smpsR ((C.drop a).take x.n.toNat)).1 = [] \/ first (smpsR ((C.drop a).take x.n.toNat)).1 ≠ x.mn \/ last (smpsR ((C.drop a).take x.n.toNat)).1 ≠ x.mx \/ x.mn < mn \/ mx <= x.mx then ([], 0, 3)
  else tRows mn mx C (l.drop (k + 1)) (a + x.n.toNat) (out ++ [(x.ls, (smpsR ((C.drop a).take x.n.toNat)).1)])) := by
 obtain ⟨hk, hx⟩ := List.getElem?_eq_some_iff.1 h
 rw [List.drop_eq_getElem_cons hk, hx, tRows]
theorem tRows_end {mn mx : Int} {C : List UInt8} {l : List En} {k a : Nat} {out : List Row} (h : l.length <= k) : tRows mn mx C (l.drop k) a out = (out, a, 0) := by rw [List.drop_eq_nil_of_le h, tRows]
theorem cntR_snoc (t : List Row) (r : Row) : cntR (t ++ [r]) = cntR t + r.2.length := by simp [cntR]

end Go.Proofs.YtgabmfibfikdbaaGreatDoor

set_option maxHeartbeats 32000000
set_option maxRecDepth 10000
namespace Go.Proofs.YtgabmfibfikdbaaGreatDoor
open Go.RowKit Go.Bar Go.Bar.Leb Go.Bar.Frm Go.Bar.Lab Go.Bar.Xor Go.Bar.Mrg Go.Bar.Met Go.Bar.Bok

theorem ktable_ok (m : Mt) (f0 f1 : Fl) (hm : m.fs = [f0, f1]) (fv sv : Value) (C I : List UInt8) (w : World) (hW : WidthsAt w) (hF : FlsAt w fv m.fs) (hC : C.length <= 1048576) (hI : I.length <= 2097152) (hok : (tableR m C I).2 = 0) :
  Calls Tryz.prog 27 #[.agg #[.string (bs m.id), .int .i64 m.mn, .int .i64 m.mx, .int .i64 m.lv, .int .i64 m.sr, .int .i64 m.sm, fv, sv, .string (bs C), .string (bs I)]] w (RetTbE w (tableR m C I)) := by
 obtain ⟨id, mn, mx, lv, sr, sm, fs, ss⟩ := m
 dsimp only at hm hF hok ⊢
 subst hm
 obtain ⟨fA, fc, rfl, hfc, hfm⟩ := hF.shape
 obtain ⟨n0, z0, m0⟩ := f0
 obtain ⟨n1, z1, m1⟩ := f1
 have hW' := Lib.hid hW
 have hF' := Lib.hid hF
 obtain ⟨R, hR⟩ : ∃ R, R = tableR ⟨id, mn, mx, lv, sr, sm, [⟨n0, z0, m0⟩, ⟨n1, z1, m1⟩], ss⟩ C I := ⟨_, rfl⟩
 rw [<- hR] at hok ⊢
 have HOKB := Lib.hid hok
 clear hok
 unfold tableR holdsB at hR
 obtain ⟨h0, hh0⟩ : ∃ b, b = (z0 == (C.length : Int) && m0 == Frm.sum C) := ⟨_, rfl⟩
 obtain ⟨h1, hh1⟩ : ∃ b, b = (z1 == (I.length : Int) && m1 == Frm.sum I) := ⟨_, rfl⟩
 have hc0 : ∀ w', Calls Tryz.prog 68 #[.agg #[.string (bs n0), .int .i64 z0, .int .u32 m0], .string (bs C)] w' (RetBelow w' (.bool h0)) := fun w' => by rw [hh0]; exact holds_any n0 C z0 m0 w' (by omega)
 have hc1 : ∀ w', Calls Tryz.prog 68 #[.agg #[.string (bs n1), .int .i64 z1, .int .u32 m1], .string (bs I)] w' (RetBelow w' (.bool h1)) := fun w' => by rw [hh1]; exact holds_any n1 I z1 m1 w' (by omega)
 have hR2 : R = if (h0 && h1) = false then ([], 4) else if (entriesR I).2 ≠ 0 then ([], (entriesR I).2)
  else if (tRows mn mx C (entriesR I).1 0 []).2.2 ≠ 0 then ([], (tRows mn mx C (entriesR I).1 0 []).2.2)
  else if ((tRows mn mx C (entriesR I).1 0 []).2.1 : Int) ≠ C.length \/ ((tRows mn mx C (entriesR I).1 0 []).1.length : Int) ≠ sr \/ (cntR (tRows mn mx C (entriesR I).1 0 []).1 : Int) ≠ sm then ([], 3)
  else ((tRows mn mx C (entriesR I).1 0 []).1, 0) := by rw [hR, hh0, hh1]; rfl
 have HR := Lib.hid hR2
 have HC0 := Lib.hid hc0
 have HC1 := Lib.hid hc1
 clear hW hF hR hR2 hh0 hh1 hc0 hc1
 have X1 := Blk.new w #[.string (bs id), .int .i64 mn, .int .i64 mx, .int .i64 lv, .int .i64 sr, .int .i64 sm, .slice fA 2 fc, sv, .string (bs C), .string (bs I)] 64
 have b1 := below_al w (.cells #[.string (bs id), .int .i64 mn, .int .i64 mx, .int .i64 lv, .int .i64 sr, .int .i64 sm, .slice fA 2 fc, sv, .string (bs C), .string (bs I)] 64)
 go_enter Tryz.func27, Tryz.ntmps27
 go_upto_region 1 with fail
 obtain ⟨wz, hwz⟩ : ∃ wz, wz = w.alloc (.cells #[.string (bs id), .int .i64 mn, .int .i64 mx, .int .i64 lv, .int .i64 sr, .int .i64 sm, .slice fA 2 fc, sv, .string (bs C), .string (bs I)] 64) := ⟨_, rfl⟩
 obtain ⟨X, hX⟩ : ∃ X, X = w.heap.size := ⟨_, rfl⟩
 have hXw : w.heap.size <= X := by omega
 rw [<- hwz, <- hX] at X1
 rw [<- hwz] at b1 ⊢
 rw [<- hX]
 have HX1 := Lib.hid X1
 have HB1 := Lib.hid b1
 have HFA := Lib.hid (hF'.out.below b1)
 obtain ⟨fb, fo, rfl, _, _, _, _⟩ := HFA.out.at_ (i := 0) rfl
 clear hwz hX X1 b1
 cases h0 with
 | false =>
  have hR3 : R = ([], 4) := by rw [HR.out]; rfl
  exact absurd HOKB.out (by rw [hR3]; decide)
 | true =>
  cases h1 with
  | false =>
   have hR3 : R = ([], 4) := by rw [HR.out]; rfl
   exact absurd HOKB.out (by rw [hR3]; decide)
  | true =>
   refine wp_region_known [(2, .slice (some ⟨fb, fo, none⟩) 2 fc), (4, .agg #[.string (bs n0), .int .i64 z0, .int .u32 m0]), (6, .string (bs C)), (7, .bool true), (12, .slice (some ⟨fb, fo, none⟩) 2 fc), (14, .agg #[.string (bs n1), .int .i64 z1, .int .u32 m1]), (16, .string (bs I)), (17, .bool true)] (by kernel_rfl) 150 (by kernel_rfl) rfl ?_
   repeat (first
    | (refine Chain.step (v := ?_) (a' := ?_) rfl rfl rfl ?_ ?_ ?_; rotate_left 2; (focus (intro w; go_simp; try with_reducible rfl)); focus (simp only [Act.put, pqA, pqS, pqZ]; try rfl))
    | (refine Chain.call (i := 2) (a' := ?_) _ rfl rfl rfl (fun wx hw => ?_) ?_ ?_; rotate_left 1; (focus (obtain ⟨g0, g1, g2, g3, g4, g5, g6, g7, g8, g9⟩ := Blk.c10 (HX1.out.below hw); go_simp; first | exact ⟨rfl, rB⟩ | exact rB)); focus (simp only [Act.put, pqA, pqS, pqZ]; try rfl))
    | (refine Chain.call (i := 4) (a' := ?_) _ rfl rfl rfl (fun wx hw => ?_) ?_ ?_; rotate_left 1; (focus (obtain ⟨_, _, he, _, g0, g1, g2⟩ := (HFA.out.below hw).at_ (i := 0) rfl); (injection he with he); (injection he with e1 e2 _); (subst e1; subst e2); (dsimp only at g0 g1 g2); (simp only [Nat.zero_mul, Nat.add_zero] at g0 g1 g2); (go_simp); (try simp only [Nat.zero_mul, Nat.add_zero]); (first | exact ⟨rfl, rB⟩ | exact rB)); focus (simp only [Act.put, pqA, pqS, pqZ]; try rfl))
    | (refine Chain.call (i := 6) (a' := ?_) _ rfl rfl rfl (fun wx hw => ?_) ?_ ?_; rotate_left 1; (focus (obtain ⟨g0, g1, g2, g3, g4, g5, g6, g7, g8, g9⟩ := Blk.c10 (HX1.out.below hw); go_simp; first | exact ⟨rfl, rB⟩ | exact rB)); focus (simp only [Act.put, pqA, pqS, pqZ]; try rfl))
    | (refine Chain.call (i := 7) (a' := ?_) _ rfl rfl rfl (fun wx hw => ?_) ?_ ?_; rotate_left 1; (focus (go_simp; (with_reducible refine (HC0.out _).mono ?_); exact (fun e w' ⟨h1, h2⟩ => by subst h1; exact ⟨rfl, h2⟩))); focus (simp only [Act.put, pqA, pqS, pqZ]; try rfl))
    | (refine Chain.call (i := 12) (a' := ?_) _ rfl rfl rfl (fun wx hw => ?_) ?_ ?_; rotate_left 1; (focus (obtain ⟨g0, g1, g2, g3, g4, g5, g6, g7, g8, g9⟩ := Blk.c10 (HX1.out.below hw); go_simp; first | exact ⟨rfl, rB⟩ | exact rB)); focus (simp only [Act.put, pqA, pqS, pqZ]; try rfl))
    | (refine Chain.call (i := 14) (a' := ?_) _ rfl rfl rfl (fun wx hw => ?_) ?_ ?_; rotate_left 1; (focus (obtain ⟨_, _, he, _, g0, g1, g2⟩ := (HFA.out.below hw).at_ (i := 1) rfl); (injection he with he); (injection he with e1 e2 _); (subst e1; subst e2); (dsimp only at g0 g1 g2); (simp only [Nat.one_mul, Nat.add_assoc] at g0 g1 g2); (go_simp); (try simp only [Nat.one_mul, Nat.add_assoc]); (first | exact ⟨rfl, rB⟩ | exact rB)); focus (simp only [Act.put, pqA, pqS, pqZ]; try rfl))
    | (refine Chain.call (i := 16) (a' := ?_) _ rfl rfl rfl (fun wx hw => ?_) ?_ ?_; rotate_left 1; (focus (obtain ⟨g0, g1, g2, g3, g4, g5, g6, g7, g8, g9⟩ := Blk.c10 (HX1.out.below hw); go_simp; first | exact ⟨rfl, rB⟩ | exact rB)); focus (simp only [Act.put, pqA, pqS, pqZ]; try rfl))
    | (refine Chain.call (i := 17) (a' := ?_) _ rfl rfl rfl (fun wx hw => ?_) ?_ ?_; rotate_left 1; (focus (go_simp; (with_reducible refine (HC1.out _).mono ?_); exact (fun e w' ⟨h1, h2⟩ => by subst h1; exact ⟨rfl, h2⟩))); focus (simp only [Act.put, pqA, pqS, pqZ]; try rfl))
    | (refine Chain.skip (a' := ?_) rfl rfl rfl ?_ ?_; rotate_left 1; focus (simp only [Act.put, pqA, pqS, pqZ]; try rfl)))
   refine Chain.end_ (fun wz hwz _ => ?_)
   have HBZ := Lib.hid (below_trans HB1.out hwz)
   have HXZ := Lib.hid (HX1.out.below hwz)
   have HWZ := Lib.hid (hW'.out.below HBZ.out)
   clear HX1 HB1 HFA hwz HC0 HC1 hW' hF'
   go_upto_region 3 with fail
   obtain ⟨El, hEl⟩ : ∃ El, El = (entriesR I).1 := ⟨_, rfl⟩
   obtain ⟨ee, hee⟩ : ∃ ee, ee = (entriesR I).2 := ⟨_, rfl⟩
   have hok := entriesR_ok I
   rw [<- hEl] at hok
   have hent := kentries_any I wz (by omega)
   have hR1 : ee ≠ 0 -> R = ([], ee) := fun h => by
    rw [HR.out]
    simp only [Bool.and_self, Bool.true_eq_false, if_false]
    rw [<- hee, if_pos h]
   have hR2 : ee = 0 -> (tRows mn mx C El 0 []).2.2 ≠ 0 -> R = ([], (tRows mn mx C El 0 []).2.2) := fun h h2 => by
    rw [HR.out]
    simp only [Bool.and_self, Bool.true_eq_false, if_false]
    rw [<- hee, if_neg (by omega), <- hEl, if_pos h2]
   have hR3 : ee = 0 -> ∀ out a, tRows mn mx C El 0 [] = (out, a, 0) -> R = if (a : Int) ≠ C.length \/ (out.length : Int) ≠ sr \/ (cntR out : Int) ≠ sm then ([], 3) else (out, 0) := fun h out a h2 => by
    rw [HR.out]
    simp only [Bool.and_self, Bool.true_eq_false, if_false]
    rw [<- hee, if_neg (by omega), <- hEl, h2]
    rfl
   have HENT := Lib.hid hent
   have HEL := Lib.hid hEl
   have HEE := Lib.hid hee
   have HOK := Lib.hid hok
   have HR1 := Lib.hid hR1
   have HR2 := Lib.hid hR2
   have HR3 := Lib.hid hR3
   clear hent hEl hee hok hR1 hR2 hR3 HR
   obtain ⟨k0, k1, k2, k3, k4, k5, k6, k7, k8, k9⟩ := HXZ.out.c10
   go_wp2_with fail
   refine HENT.out.mono ?_
   rintro e w1 ⟨v1, es, rfl, hes, hpl⟩
   rw [<- HEL.out] at hpl
   rw [<- HEE.out]
   obtain ⟨eA, ec, rfl, hec⟩ := hes.n.buf.shape
   have HES1 := Lib.hid hes
   have HPL := Lib.hid hpl
   have HWZ1 := Lib.hid hes.n.below
   have HX1 := Lib.hid (HXZ.out.below hes.n.below)
   have HW1 := Lib.hid (HWZ.out.below hes.n.below)
   have HB1 := Lib.hid (below_trans HBZ.out hes.n.below)
   clear HENT hes hpl HXZ HWZ k0 k1 k2 k3 k4 k5 k6 k7 k8 k9
   by_cases he0 : ee = 0
   ·subst he0
    have hr2 : ∀ e, tRows mn mx C El 0 [] = ([], 0, e) -> e ≠ 0 -> R = ([], e) := fun e h he => by
     have h2 := HR2.out rfl (by rw [h]; exact he)
     rw [h] at h2
     exact h2
    have HR2' := Lib.hid hr2
    have HR3' := Lib.hid (HR3.out rfl)
    obtain ⟨EN, hEN⟩ : ∃ EN, EN = es.length := ⟨_, rfl⟩
    have hENl : EN <= 10000 := by
     have h1 := HOK.out.2
     have h2 := congrArg List.length HPL.out
     rw [List.length_map] at h2
     omega
    rw [<- hEN] at HES1 hec ⊢
    have HEN := Lib.hid hEN
    clear hEN HR1 HR2 HR3 hr2
    go_upto_region 9 with fail
    go_loopw [43, 7, 6] (fun iv av ov wr => ∃ (k a : Nat) (t : List Rv), iv = .int .i64 k /\ av = .int .i64 a /\ k <= EN /\ a <= C.length /\ t.length = k /\ Hid (DTb wz wz w1 wr 94 128 ov t) /\ Hid (tRows mn mx C El 0 [] = tRows mn mx C (El.drop k) a (t.map plR)) /\
     Hid (DEs wz wz wz wr 45 128 (.slice eA EN ec) es) /\ Hid (Blk wr X 64 #[.string (bs id), .int .i64 mn, .int .i64 mx, .int .i64 lv, .int .i64 sr, .int .i64 sm, .slice (some ⟨fb, fo, none⟩) 2 fc, sv, .string (bs C), .string (bs I)]) /\ Hid (cntR (t.map plR) <= 20 * a)) (fun iv _ _ _ => EN - (intOf iv).toNat)
    case atStart => exact ⟨0, 0, [], rfl, rfl, Nat.zero_le _, Nat.zero_le _, rfl, Lib.hid (DTb.nil (Below.refl _ _) HES1.out.n.below _ _), Lib.hid rfl, HES1, HX1, Lib.hid (Nat.le_refl _)⟩
    case round =>
     obtain ⟨k, a, t, rfl, rfl, hk, ha, htl, HT, HTR, HES, HX, HCT⟩ := hrel
     clear HX1 HES1
     obtain ⟨oA, oc, rfl, hoc⟩ := HT.out.n.buf.shape
     have HTL := Lib.hid htl
     have htb : t.length <= 10000 := by omega
     clear htl
     have HBR := Lib.hid (below_trans HB1.out HT.out.n.below)
     have HWR := Lib.hid (HW1.out.below HT.out.n.below)
     by_cases hgo : k < EN
     ·obtain ⟨⟨ls, la, lc, fr, n, xmn, xmx⟩, hx⟩ : ∃ x, es[k]? = some x := ⟨_, List.getElem?_eq_getElem (by rw [<- HEN.out]; exact hgo)⟩
      have hent := HES.out.at_ HES.out.n.below
      obtain ⟨eb, eo, rfl, _, hps, g0, g1, g2, g3, g4⟩ := hent.at_ hx
      have hEk : El[k]? = some ⟨ls, fr, n, xmn, xmx⟩ := by rw [<- HPL.out, List.getElem?_map, hx]; rfl
      have hat := tRows_at (mn := mn) (mx := mx) (C := C) (a := a) (out := t.map plR) hEk
      have hn1 := (HOK.out.1 _ (List.mem_of_getElem? hEk)).n
      dsimp only at hat hn1 g0 g1 g2 g3 g4
      obtain ⟨nn, rfl⟩ : ∃ nn : Nat, n = nn := ⟨n.toNat, by omega⟩
      rw [<- HTR.out] at hat
      rw [show ((nn : Int)).toNat = nn by omega] at hat
      have HAT := Lib.hid hat
      have HDE := Lib.hid (HES.out.d _ (List.mem_of_getElem? hx))
      clear hent hps hEk hat hx
      obtain ⟨wb, hwb⟩ : ∃ wb, wb = wr.alloc (.cells #[.slice la ls.length lc, .int .i64 fr, .int .i64 (nn : Int), .int .i64 xmn, .int .i64 xmx] 45) := ⟨_, rfl⟩
      have hb2 : Below wr.heap.size wr wb := by rw [hwb]; exact below_al _ _
      have HZ : Hid (Blk wb wr.heap.size 45 #[.slice la ls.length lc, .int .i64 fr, .int .i64 (nn : Int), .int .i64 xmn, .int .i64 xmx]) := Lib.hid (by rw [hwb]; exact Blk.new _ _ _)
      have HX4 := Lib.hid (HX.out.below hb2)
      have HT4 := Lib.hid (HT.out.below hb2)
      have HES4 := Lib.hid (HES.out.below hb2)
      have HDE4 := Lib.hid (HDE.out.below hb2)
      have HB4 := Lib.hid (below_trans HBR.out hb2)
      have HBW4 := Lib.hid (below_trans (below_trans HWZ1.out HT.out.n.below) hb2)
      have HW4 := Lib.hid (HWR.out.below hb2)
      clear HX HT HES HDE HBR HWR
      go_upto_region 11 with fail
      rw [<- hwb]
      obtain ⟨Q, hQ⟩ : ∃ Q, Q = wr.heap.size := ⟨_, rfl⟩
      rw [<- hQ] at HZ ⊢
      clear hwb hQ hb2 g0 g1 g2 g3 g4
      obtain ⟨r0, r1, r2, r3, r4⟩ := HZ.out.c5
      obtain ⟨k0, k1, k2, k3, k4, k5, k6, k7, k8, k9⟩ := HX4.out.c10
      have hwl : IntKind.i64.wrap ((C.length : Int) - (a : Int)) = (C.length : Int) - (a : Int) := by rw [IntKind.wrap_i64]; omega
      by_cases hfr : fr = (a : Int)
      ·subst hfr
       by_cases hnl : (C.length : Int) - (a : Int) < (nn : Int)
       ·have hnd : decide ((C.length : Int) - (a : Int) < (nn : Int)) = true := decide_eq_true hnl
        have HRX := Lib.hid (HR2'.out 3 (by rw [HAT.out, if_pos (.inr hnl)]) (by decide))
        exact absurd HOKB.out (by rw [HRX.out]; first | decide | exact hse0)
       ·have hnd : decide ((C.length : Int) - (a : Int) < (nn : Int)) = false := decide_eq_false hnl
        have hw2 : IntKind.i64.wrap ((a : Int) + (nn : Int)) = ((a + nn : Nat) : Int) := by rw [IntKind.wrap_i64]; omega
        obtain ⟨D, hD⟩ : ∃ D, D = (C.drop a).take nn := ⟨_, rfl⟩
        have hDl : D.length = nn := by rw [hD, List.length_take, List.length_drop]; omega
        have hbx : (bs C).extract a (a + nn) = bs D := by rw [bs_extract, show a + nn - a = nn by omega, hD]
        rw [<- hD, if_neg (by omega)] at HAT
        have hsm := smpsR_len D
        obtain ⟨S, hS⟩ : ∃ S, S = (smpsR D).1 := ⟨_, rfl⟩
        obtain ⟨se, hse⟩ : ∃ se, se = (smpsR D).2 := ⟨_, rfl⟩
        have hch := kchunks_any D wb HW4.out (by omega)
        have HCH := Lib.hid hch
        have HS := Lib.hid hS
        have HSE := Lib.hid hse
        rw [<- hS, <- hse] at HAT
        rw [<- hS] at hsm
        clear hD hch hS hse
        go_wp2_with fail
        refine HCH.out.mono ?_
        rintro e w5 ⟨v5, rfl, hn5⟩
        rw [<- HS.out] at hn5
        rw [<- HSE.out]
        obtain ⟨sA, sc, rfl, hsc⟩ := hn5.buf.shape
        have HN5 := Lib.hid hn5
        have HX5 := Lib.hid (HX4.out.below hn5.below)
        have HT5 := Lib.hid (HT4.out.below hn5.below)
        have HES5 := Lib.hid (HES4.out.below hn5.below)
        have HDE5 := Lib.hid (HDE4.out.below hn5.below)
        have HZ5 := Lib.hid (HZ.out.below hn5.below)
        have HB5 := Lib.hid (below_trans HB4.out hn5.below)
        have HW5 := Lib.hid (HW4.out.below hn5.below)
        clear HX4 HT4 HES4 HDE4 HZ HB4 HW4 hn5 HCH r0 r1 r2 r3 r4 k0 k1 k2 k3 k4 k5 k6 k7 k8 k9
        by_cases hse0 : se = 0
        ·subst hse0
         rw [if_neg (by omega)] at HAT
         obtain ⟨r0, r1, r2, r3, r4⟩ := HZ5.out.c5
         obtain ⟨k0, k1, k2, k3, k4, k5, k6, k7, k8, k9⟩ := HX5.out.c10
         rcases hq0 : S with _ | ⟨s0, sr0⟩
         ·subst hq0
          have HRX := Lib.hid (HR2'.out 3 (by rw [HAT.out, if_pos (.inl rfl)]) (by decide))
          exact absurd HOKB.out (by rw [HRX.out]; first | decide | exact hse0)
         ·rw [<- hq0]
          obtain ⟨q, hq⟩ : ∃ q, S.length = q + 1 := ⟨sr0.length, by rw [hq0]; rfl⟩
          obtain ⟨⟨yt, yv⟩, hy⟩ : ∃ y, S[0]? = some y := ⟨_, List.getElem?_eq_getElem (by omega)⟩
          obtain ⟨⟨zt, zv⟩, hz⟩ : ∃ z, S[q]? = some z := ⟨_, List.getElem?_eq_getElem (by omega)⟩
          have hfy := first_at2 hy
          have hlz := last_at2 hq hz
          have hsz : ((S.length : Int) == 0) = false := by rw [beq_eq_false_iff_ne]; omega
          have hqw : IntKind.i64.wrap ((S.length : Int) - 1) = (q : Int) := by rw [IntKind.wrap_i64]; omega
          have hqn : (q : Int) < (S.length : Int) := by omega
          have hqn0 : (0 : Int) <= (q : Int) := by omega
          have hsne : ¬ S = [] := by rw [hq0]; simp
          have hps0 : (0 : Int) < (S.length : Int) := by omega
          have hps1 : 0 < S.length := by omega
          obtain ⟨sb, so, e1, hsb, f0, _⟩ := SmsAt.at_ (l := S) HN5.out.slice hy
          obtain ⟨sb2, so2, e2, _, f1, _⟩ := SmsAt.at_ (l := S) HN5.out.slice hz
          subst e1
          injection e2 with e2
          injection e2 with e3 e4 _
          subst e3; subst e4
          simp only [Nat.zero_mul, Nat.add_zero] at f0
          rw [hfy, hlz] at HAT
          have HYC : Hid (∀ w', Below w5.heap.size w5 w' -> w'.cell? ⟨sb, so, none⟩ = some (.int .i64 yt)) := Lib.hid fun w' hb => (Below.cell hb hsb).trans f0
          have HZC : Hid (∀ w', Below w5.heap.size w5 w' -> w'.cell? ⟨sb, so + q * 2, none⟩ = some (.int .i64 zt)) := Lib.hid fun w' hb => (Below.cell hb hsb).trans f1
          have HSNE := Lib.hid hsne
          clear hfy hlz hy hz hq hq0 f0 f1 r0 r1 r2 r3 r4 k0 k1 k2 k3 k4 k5 k6 k7 k8 k9 hsne
          dsimp only at HAT
          go_upto_region 16 with fail
          by_cases hc0 : yt = xmn
          rotate_left 1
          ·have hb0 : (yt == xmn) = false := by rw [beq_eq_false_iff_ne]; exact hc0
           have hbb0 : (yt != xmn) = true := by rw [bne_iff_ne]; exact hc0
           have HRX := Lib.hid (HR2'.out 3 (by rw [HAT.out, if_pos (.inr (.inl hc0))]) (by decide))
           exact absurd HOKB.out (by rw [HRX.out]; first | decide | exact hse0)
          ·subst hc0
           by_cases hc1 : zt = xmx
           rotate_left 1
           ·have hb1 : (zt == xmx) = false := by rw [beq_eq_false_iff_ne]; exact hc1
            have hbb1 : (zt != xmx) = true := by rw [bne_iff_ne]; exact hc1
            have HRX := Lib.hid (HR2'.out 3 (by rw [HAT.out, if_pos (.inr (.inr (.inl hc1)))]) (by decide))
            exact absurd HOKB.out (by rw [HRX.out]; first | decide | exact hse0)
           ·subst hc1
            by_cases hc2 : yt < mn
            ·have hb2 : decide (yt < mn) = true := decide_eq_true hc2
             have HRX := Lib.hid (HR2'.out 3 (by rw [HAT.out, if_pos (.inr (.inr (.inr (.inl hc2))))]) (by decide))
             exact absurd HOKB.out (by rw [HRX.out]; first | decide | exact hse0)
            ·have hb2 : decide (yt < mn) = false := decide_eq_false hc2
             by_cases hc3 : mx <= zt
             ·have hb3 : decide (mx <= zt) = true := decide_eq_true hc3
              have HRX := Lib.hid (HR2'.out 3 (by rw [HAT.out, if_pos (.inr (.inr (.inr (.inr hc3))))]) (by decide))
              exact absurd HOKB.out (by rw [HRX.out]; first | decide | exact hse0)
             ·have hb3 : decide (mx <= zt) = false := decide_eq_false hc3
              rw [if_neg (by rintro (h | h | h | h | h); exact HSNE.out h; exact h rfl; exact h rfl; exact hc2 h; exact hc3 h)] at HAT
              have hcq : cntR (t.map plR) + S.length <= 20 * (a + nn) := by have := HCT.out; omega
              have HCQ := Lib.hid hcq
              clear hcq
              refine wp_region_known [(7, .int .i64 yt), (9, .int .i64 yt), (19, .int .i64 zt), (21, .int .i64 zt), (26, .int .i64 yt), (29, .int .i64 mn), (34, .int .i64 zt), (37, .int .i64 mx)] (by kernel_rfl) 150 (by kernel_rfl) rfl ?_
              repeat (first
               | (refine Chain.step (v := ?_) (a' := ?_) rfl rfl rfl ?_ ?_ ?_; rotate_left 2; (focus (intro w; go_simp; try with_reducible rfl)); focus (simp only [Act.put, pqA, pqS, pqZ]; try rfl))
               | (refine Chain.call (i := 7) (a' := ?_) _ rfl rfl rfl (fun wx hw => ?_) ?_ ?_; rotate_left 1; (focus (have g0 := HYC.out _ hw); (go_simp); (first | exact ⟨rfl, rB⟩ | exact rB)); focus (simp only [Act.put, pqA, pqS, pqZ]; try rfl))
               | (refine Chain.call (i := 9) (a' := ?_) _ rfl rfl rfl (fun wx hw => ?_) ?_ ?_; rotate_left 1; (focus (obtain ⟨g0, g1, g2, g3, g4⟩ := Blk.c5 (HZ5.out.below hw); go_simp; first | exact ⟨rfl, rB⟩ | exact rB)); focus (simp only [Act.put, pqA, pqS, pqZ]; try rfl))
               | (refine Chain.call (i := 19) (a' := ?_) _ rfl rfl rfl (fun wx hw => ?_) ?_ ?_; rotate_left 1; (focus (have g0 := HZC.out _ hw); (go_simp); (first | exact ⟨rfl, rB⟩ | exact rB)); focus (simp only [Act.put, pqA, pqS, pqZ]; try rfl))
               | (refine Chain.call (i := 21) (a' := ?_) _ rfl rfl rfl (fun wx hw => ?_) ?_ ?_; rotate_left 1; (focus (obtain ⟨g0, g1, g2, g3, g4⟩ := Blk.c5 (HZ5.out.below hw); go_simp; first | exact ⟨rfl, rB⟩ | exact rB)); focus (simp only [Act.put, pqA, pqS, pqZ]; try rfl))
               | (refine Chain.call (i := 26) (a' := ?_) _ rfl rfl rfl (fun wx hw => ?_) ?_ ?_; rotate_left 1; (focus (obtain ⟨g0, g1, g2, g3, g4⟩ := Blk.c5 (HZ5.out.below hw); go_simp; first | exact ⟨rfl, rB⟩ | exact rB)); focus (simp only [Act.put, pqA, pqS, pqZ]; try rfl))
               | (refine Chain.call (i := 29) (a' := ?_) _ rfl rfl rfl (fun wx hw => ?_) ?_ ?_; rotate_left 1; (focus (obtain ⟨g0, g1, g2, g3, g4, g5, g6, g7, g8, g9⟩ := Blk.c10 (HX5.out.below hw); go_simp; first | exact ⟨rfl, rB⟩ | exact rB)); focus (simp only [Act.put, pqA, pqS, pqZ]; try rfl))
               | (refine Chain.call (i := 34) (a' := ?_) _ rfl rfl rfl (fun wx hw => ?_) ?_ ?_; rotate_left 1; (focus (obtain ⟨g0, g1, g2, g3, g4⟩ := Blk.c5 (HZ5.out.below hw); go_simp; first | exact ⟨rfl, rB⟩ | exact rB)); focus (simp only [Act.put, pqA, pqS, pqZ]; try rfl))
               | (refine Chain.call (i := 37) (a' := ?_) _ rfl rfl rfl (fun wx hw => ?_) ?_ ?_; rotate_left 1; (focus (obtain ⟨g0, g1, g2, g3, g4, g5, g6, g7, g8, g9⟩ := Blk.c10 (HX5.out.below hw); go_simp; first | exact ⟨rfl, rB⟩ | exact rB)); focus (simp only [Act.put, pqA, pqS, pqZ]; try rfl))
               | (refine Chain.skip (a' := ?_) rfl rfl rfl ?_ ?_; rotate_left 1; focus (simp only [Act.put, pqA, pqS, pqZ]; try rfl)))
              refine Chain.end_ (fun wy hwy _ => ?_)
              have HT6 := Lib.hid (HT5.out.below hwy)
              have HES6 := Lib.hid (HES5.out.below hwy)
              have HX6 := Lib.hid (HX5.out.below hwy)
              have HDE6 := Lib.hid (HDE5.out.below hwy)
              have HB6 := Lib.hid (below_trans HB5.out hwy)
              have HN6 := Lib.hid ((HN5.out.after HBW4.out).then_below hwy)
              obtain ⟨r0, r1, r2, r3, r4⟩ := (HZ5.out.below hwy).c5
              have hnb := HT6.out.n
              go_wp2_with (at_builtin; refine wpList_append_nlit rfl (.tmp 120) (.tmp 125) 56 rfl mrow_ty rfl hnb rfl (by simp) rfl (by simp [Value.oneCell']) (by simp only [maxLen]; omega) (by omega) ?_; intro v7 w7 hn7 ha7; have HAP := Lib.hid ha7; clear ha7)
              have hlit := below_al (wy) (.cells #[.slice la ls.length lc, .slice (some ⟨sb, so, none⟩) S.length sc] 94)
              have hd7 := DTb.snoc (x := ⟨ls, S, la, lc, some ⟨sb, so, none⟩, sc⟩) (HT6.out.below hlit) ⟨HDE6.out.below hlit, .inr (HN6.out.then_below hlit)⟩ hn7 HAP.out (by decide) (by decide)
              have HD7 := Lib.hid hd7
              have hk7 := Ke.of_ap (Ts := fun U => U = 94) (HT6.out.n.buf.below hlit) HAP.out rfl
              have HES7 := Lib.hid ((HES6.out.below hlit).ke hk7 (below_trans HWZ1.out hn7.below) (by decide) (by decide))
              have HX7 := Lib.hid (hk7.blk (HX6.out.below hlit) (by decide))
              clear hn7 HAP hnb hk7 hlit hd7
              go_roundw
              case rel =>
               refine ⟨k + 1, a + nn, t ++ [⟨ls, S, la, lc, some ⟨sb, so, none⟩, sc⟩], by go_num, rfl, by omega, by omega, by rw [List.length_append]; simp only [List.length_singleton]; have := HTL.out; omega, HD7, Lib.hid ?_, HES7, HX7, Lib.hid ?_⟩
               ·rw [HAT.out, List.map_append]; rfl
               ·rw [List.map_append]
                show cntR (t.map plR ++ [(ls, S)]) <= _
                rw [cntR_snoc]
                exact HCQ.out
              case measure => simp [intOf]; omega
        ·have hse1 : ((se : Int) == 0) = false := by rw [beq_eq_false_iff_ne]; omega
         have HRX := Lib.hid (HR2'.out se (by rw [HAT.out, if_pos hse0]) hse0)
         exact absurd HOKB.out (by rw [HRX.out]; first | decide | exact hse0)
      ·have hfb : (fr == (a : Int)) = false := by rw [beq_eq_false_iff_ne]; exact hfr
       have HRX := Lib.hid (HR2'.out 3 (by rw [HAT.out, if_pos (.inl hfr)]) (by decide))
       exact absurd HOKB.out (by rw [HRX.out]; first | decide | exact hse0)
     ·obtain rfl : k = EN := by omega
      have htl2 : El.length <= k := by
       have h1 := congrArg List.length HPL.out
       have h2 := HEN.out
       rw [List.length_map] at h1
       omega
      have hend := HR3'.out (t.map plR) a (by rw [HTR.out, tRows_end htl2])
      rw [List.length_map] at hend
      obtain ⟨CT, hCT⟩ : ∃ CT, CT = cntR (t.map plR) := ⟨_, rfl⟩
      rw [<- hCT] at hend
      have hct : CT <= 1000000000 := by have := HCT.out; omega
      have HTB := Lib.hid ((HT.out.rtb HWZ1.out).tb)
      have hcnt : ∀ w', Below wr.heap.size wr w' -> Calls Tryz.prog 61 #[.slice oA t.length oc] w' (RetBelow w' (.int .i64 (CT : Nat))) := fun w' hb => by
       rw [hCT]
       exact mcount_any _ t w' (HTB.out.below hb) (by rw [<- hCT]; exact hct)
      have HCNT := Lib.hid hcnt
      have HEND := Lib.hid hend
      clear hcnt hend htl2 hCT hct HCT
      rw [<- HTL.out]
      go_upto_region 21 with fail
      by_cases ha1 : a = C.length
      rotate_left 1
      ·have hb : ((a : Int) == (C.length : Int)) = false := by rw [beq_eq_false_iff_ne]; omega
       have hbb : ((a : Int) != (C.length : Int)) = true := by rw [bne_iff_ne]; omega
       have HRX := Lib.hid (HEND.out.trans (if_pos (.inl (by omega))))
       exact absurd HOKB.out (by rw [HRX.out]; first | decide | exact hse0)
      ·subst ha1
       obtain ⟨tn, htn⟩ : ∃ tn, tn = t.length := ⟨_, rfl⟩
       rw [<- htn] at HEND HCNT HTB ⊢
       have HTNE := Lib.hid htn
       clear htn
       by_cases ha2 : (tn : Int) = sr
       rotate_left 1
       ·have hb : ((tn : Int) == sr) = false := by rw [beq_eq_false_iff_ne]; omega
        have hbb : ((tn : Int) != sr) = true := by rw [bne_iff_ne]; omega
        have HRX := Lib.hid (HEND.out.trans (if_pos (.inr (.inl ha2))))
        exact absurd HOKB.out (by rw [HRX.out]; first | decide | exact hse0)
       ·subst ha2
        by_cases ha3 : (CT : Int) = sm
        rotate_left 1
        ·have hb : ((CT : Int) == sm) = false := by rw [beq_eq_false_iff_ne]; omega
         have hbb : ((CT : Int) != sm) = true := by rw [bne_iff_ne]; omega
         have HRX := Lib.hid (HEND.out.trans (if_pos (.inr (.inr ha3))))
         exact absurd HOKB.out (by rw [HRX.out]; first | decide | exact hse0)
        ·subst ha3
         have HRX := Lib.hid (HEND.out.trans (if_neg (by rintro (h | h | h) <;> exact h rfl)))
         clear HEND
         refine wp_region_known [(2, .string (bs C)), (10, .int .i64 (tn : Nat)), (15, .int .i64 (CT : Nat)), (18, .int .i64 (CT : Nat))] (by kernel_rfl) 150 (by kernel_rfl) rfl ?_
         repeat (first
          | (refine Chain.step (v := ?_) (a' := ?_) rfl rfl rfl ?_ ?_ ?_; rotate_left 2; (focus (intro w; go_simp; try with_reducible rfl)); focus (simp only [Act.put, pqA, pqS, pqZ]; try rfl))
          | (refine Chain.call (i := 2) (a' := ?_) _ rfl rfl rfl (fun wx hw => ?_) ?_ ?_; rotate_left 1; (focus (obtain ⟨g0, g1, g2, g3, g4, g5, g6, g7, g8, g9⟩ := Blk.c10 (HX.out.below hw); go_simp; first | exact ⟨rfl, rB⟩ | exact rB)); focus (simp only [Act.put, pqA, pqS, pqZ]; try rfl))
          | (refine Chain.call (i := 10) (a' := ?_) _ rfl rfl rfl (fun wx hw => ?_) ?_ ?_; rotate_left 1; (focus (obtain ⟨g0, g1, g2, g3, g4, g5, g6, g7, g8, g9⟩ := Blk.c10 (HX.out.below hw); go_simp; first | exact ⟨rfl, rB⟩ | exact rB)); focus (simp only [Act.put, pqA, pqS, pqZ]; try rfl))
          | (refine Chain.call (i := 15) (a' := ?_) _ rfl rfl rfl (fun wx hw => ?_) ?_ ?_; rotate_left 1; (focus (go_simp; (with_reducible refine (HCNT.out _ hw).mono ?_); exact (fun e w' ⟨h1, h2⟩ => by subst h1; exact ⟨rfl, h2⟩))); focus (simp only [Act.put, pqA, pqS, pqZ]; try rfl))
          | (refine Chain.call (i := 18) (a' := ?_) _ rfl rfl rfl (fun wx hw => ?_) ?_ ?_; rotate_left 1; (focus (obtain ⟨g0, g1, g2, g3, g4, g5, g6, g7, g8, g9⟩ := Blk.c10 (HX.out.below hw); go_simp; first | exact ⟨rfl, rB⟩ | exact rB)); focus (simp only [Act.put, pqA, pqS, pqZ]; try rfl))
          | (refine Chain.skip (a' := ?_) rfl rfl rfl ?_ ?_; rotate_left 1; focus (simp only [Act.put, pqA, pqS, pqZ]; try rfl)))
         refine Chain.end_ (fun wy hwy _ => ?_)
         have HRT := Lib.hid (((HT.out.rtb HWZ1.out).after HB1.out).below hwy)
         go_wp2_with fail
         go_ret2
         rw [HRX.out]
         exact ⟨_, t, rfl, by rw [HTNE.out]; exact HRT.out, rfl⟩
   ·have he1 : ((ee : Int) == 0) = false := by rw [beq_eq_false_iff_ne]; omega
    have hR := HR1.out he0
    exact absurd HOKB.out (by rw [hR]; exact he0)
end Go.Proofs.YtgabmfibfikdbaaGreatDoor

set_option maxHeartbeats 32000000
set_option maxRecDepth 10000
namespace Go.Proofs.YtgabmfibfikdbaaGreatDoor
open Go.RowKit Go.Bar Go.Bar.Leb Go.Bar.Lab Go.Bar.Xor Go.Bar.Mrg

theorem nbuf_lit {W w : World} (hb : Below W.heap.size W w) (e : TypeId) (sz k : Nat) (news : List Value) (hl : news.length = k * sz) (hk : k <= maxLen) : NBuf W (w.alloc (.cells news.toArray e)) e sz (.slice (some ⟨w.heap.size, 0, none⟩) k k) k news :=
 ⟨Buf.lit w e sz k news hl hk, hb.alloc hb.size _, fun q hq => by simp [Value.ownBlock] at hq; subst hq; exact hb.size⟩
section
variable {B W0 W w : World} {T Tp : TypeId} {v : Value} {t : List Rv} {X : Nat} {cur : Array Value}
theorem DTb.setX (h : DTb B W0 W w T Tp v t) (hX : Blk w X T cur) (hW : W.heap.size <= X) (hv : v.ownBlock ≠ some X) (h1 : Tp ≠ T) (h2 : 41 ≠ T) (i : Nat) (u : Value) : DTb B W0 W (w.setCell ⟨X, i, none⟩ u) T Tp v t := by
 have hk : Ke (fun U => U = T) w (w.setCell ⟨X, i, none⟩ u) := Ke.of_set (Ts := fun U => U = T) hX rfl i u
 have hb : Below W0.heap.size W0 (w.setCell ⟨X, i, none⟩ u) := (below_trans h.b h.n.below).setCell (p := ⟨X, i, none⟩) (Nat.le_trans h.b.size hW) _
 exact ⟨h.n.set_blk hW hv i u, h.b, fun x hx => (h.d x hx).ke hk hb h1 h2⟩
end
def RetDt (B W0 w : World) (T Tp : TypeId) (R : List Row) (e : Ending) (w' : World) : Prop := ∃ v t, e = .returned v /\ DTb B W0 w w' T Tp v t /\ t.map plR = R
section
variable {L : List Pr} {s : Sm} {r : Row} {R : List Row}
theorem addG_t0 (h : cmpL L r.1 = 0) : addG L s true (r :: R) = (r.1, putS r.2 s) :: addG L s true R := by
 show (if cmpL L r.1 = 0 then _ else r) :: _ = _
 rw [if_pos h]
theorem addG_t1 (h : ¬ cmpL L r.1 = 0) : addG L s true (r :: R) = r :: addG L s true R := by
 show (if cmpL L r.1 = 0 then _ else r) :: _ = _
 rw [if_neg h]
theorem addG_f0 (h : cmpL L r.1 = 0) : addG L s false (r :: R) = (r.1, putS r.2 s) :: addG L s true R := by
 show (if cmpL L r.1 = 0 then _ else _ : List Row) = _
 rw [if_pos h]
theorem addG_f1 (h : cmpL L r.1 < 0) : addG L s false (r :: R) = (L, [s]) :: r :: addG L s true R := by
 show (if cmpL L r.1 = 0 then _ else if cmpL L r.1 < 0 then _ else _ : List Row) = _
 rw [if_neg (by omega), if_pos h]
theorem addG_f2 (h : 0 < cmpL L r.1) : addG L s false (r :: R) = r :: addG L s false R := by
 show (if cmpL L r.1 = 0 then _ else if cmpL L r.1 < 0 then _ else _ : List Row) = _
 rw [if_neg (by omega), if_neg (by omega)]
end

theorem radd_any (B W0 : World) (v lv : Value) (t : List Rv) (L : List Pr) (s : Sm) (w : World) (h : TbAt w v t) (hL : PsAt w lv L) (hB0 : Below W0.heap.size W0 w) (hd : ∀ x ∈ t, Deep B W0 w 146 x) (hLd : PsAt B lv L \/ NBuf W0 w 146 2 lv L.length (pcs L)) (hl : t.length <= 1000000) (hs : ∀ x ∈ t, x.ss.length <= 1000000) :
  Calls Tryz.prog 55 #[v, lv, .agg #[.int .i64 s.1, .int .u64 (s.2 : Nat)]] w (RetDt B W0 w 62 146 (addR (t.map plR) L s)) := by
 obtain ⟨A, c, rfl, hlc, hcm⟩ := h.shape
 obtain ⟨LA, Lc, rfl, hLc, hLm⟩ := hL.shape
 unfold maxLen at hcm hLm
 obtain ⟨R, hR⟩ : ∃ R, R = addR (t.map plR) L s := ⟨_, rfl⟩
 rw [<- hR]
 obtain ⟨W, hW⟩ : ∃ W, W = w.alloc (.cells #[.int .i64 s.1, .int .u64 (s.2 : Nat)] 41) := ⟨_, rfl⟩
 have hbW : Below w.heap.size w W := by rw [hW]; exact below_alloc1 _ _
 have hbox : Blk W w.heap.size 41 #[.int .i64 s.1, .int .u64 (s.2 : Nat)] := by rw [hW]; exact Blk.new _ _ _
 have HT := Lib.hid (h.below hbW)
 have HPL := Lib.hid hL
 have HT0 := Lib.hid h
 have HB0 := Lib.hid hB0
 have HDP := Lib.hid hd
 have HLD := Lib.hid hLd
 have HR := Lib.hid hR
 have HBW := Lib.hid hbW
 have HBX := Lib.hid hbox
 have HSL := Lib.hid hs
 have hWs : W.heap.size = w.heap.size + 1 := by rw [hW]; simp
 have hn0 := NBuf.lit0 (Below.refl W.heap.size W) 62 2
 rw [hWs] at hn0
 have HN0 : Hid (DTb B W0 W (W.alloc (.cells #[] 62)) 62 146 (.slice (some ⟨w.heap.size + 1, 0, none⟩) 0 0) []) := Lib.hid ⟨hn0, below_trans hB0 hbW, fun x hx => by cases hx⟩
 have HWS := Lib.hid hWs
 clear h hR hbW hbox hn0 hWs hL hs hB0 hd hLd
 go_enter Tryz.func55, Tryz.ntmps55
 go_wp2_with fail
 rw [<- hW]
 clear hW
 go_loopw [7, 8, 15] (fun d f i wr => ∃ (k : Nat) (b : Bool) (O : List Rv), k <= t.length /\ i = .int .i64 k /\ f = .bool b /\ O.length <= k + b.toNat /\ Hid (DTb B W0 W wr 62 146 d O) /\ Hid (∀ q, d.ownBlock = some q -> q < wr.heap.size) /\ Hid (R = O.map plR ++ addG L s b ((t.map plR).drop k))) (fun _ _ i _ => t.length - (intOf i).toNat)
 case atStart => exact ⟨0, false, [], Nat.zero_le _, rfl, rfl, Nat.zero_le _, HN0, Lib.hid (fun q hq => by simp [Value.ownBlock] at hq; subst hq; simp [HWS.out]), Lib.hid HR.out⟩
 case round =>
  obtain ⟨k, b, O, hk, rfl, rfl, hO, HNB, HOW, HRR⟩ := hrel
  obtain ⟨fA, fc, rfl, hfc⟩ := HNB.out.n.buf.shape
  have hbw := HNB.out.n.below
  clear HN0 HR
  by_cases hgo : k < t.length
  ·obtain ⟨x, hx⟩ : ∃ x, t[k]? = some x := ⟨_, List.getElem?_eq_getElem hgo⟩
   obtain ⟨xb, xo, rfl, x0, x1, hrx⟩ := (HT.out.below hbw).at_ hx
   have hdr : (t.map plR).drop k = plR x :: (t.map plR).drop (k + 1) := by
    have hx2 : (t.map plR)[k]? = some (plR x) := by rw [List.getElem?_map, hx]; rfl
    obtain ⟨hlt, he⟩ := List.getElem?_eq_some_iff.1 hx2
    rw [List.drop_eq_getElem_cons hlt, he]
   have hrr := HRR.out
   rw [hdr] at hrr
   have hxs := HSL.out x (List.mem_of_getElem? hx)
   have HRX := Lib.hid (HT0.out.2 x (List.mem_of_getElem? hx))
   have HDX := Lib.hid (fun w' (hb : Below w.heap.size w w') => (HDP.out x (List.mem_of_getElem? hx)).below hb)
   obtain ⟨wx, hwx⟩ : ∃ wx, wx = wr.alloc (.cells #[.slice x.la x.ls.length x.lc, .slice x.sa x.ss.length x.sc] 62) := ⟨_, rfl⟩
   have hbx : Below wr.heap.size wr wx := by rw [hwx]; exact below_alloc1 _ _
   have HXB : Hid (Blk wx wr.heap.size 62 #[.slice x.la x.ls.length x.lc, .slice x.sa x.ss.length x.sc]) := Lib.hid (by rw [hwx]; exact Blk.new _ _ _)
   have HNX := Lib.hid (HNB.out.below hbx)
   have HNE := Lib.hid (fun (q : Nat) (h : (Value.slice fA O.length fc).ownBlock = some q) => Nat.ne_of_lt (HOW.out q h))
   have hWX := hbw.size
   have hbWx := below_trans hbw hbx
   obtain ⟨Z, hZ⟩ : ∃ Z, Z = cmpL L x.ls := ⟨_, rfl⟩
   have hcm := rcompare_any (.slice LA L.length Lc) (.slice x.la x.ls.length x.lc) L x.ls wx (HPL.out.below (below_trans HBW.out hbWx)) (HRX.out.1.below (below_trans HBW.out hbWx))
   rw [<- hZ] at hcm
   have HCM := Lib.hid hcm
   obtain ⟨y0, y1⟩ := HXB.out.c2
   have hO2 : O.length <= k + 1 := by cases b <;> simp at hO <;> omega
   clear hdr hx hcm hrx HNB HOW
   go_upto_region 6 with fail
   rw [<- hwx]
   obtain ⟨X, hX⟩ : ∃ X, X = wr.heap.size := ⟨_, rfl⟩
   rw [<- hX] at HXB HNE hWX y0 y1 ⊢
   clear hwx hX
   go_wp2_with fail
   refine HCM.out.mono ?_
   rintro e w1 ⟨rfl, hb1⟩
   have HN1 := Lib.hid (HNX.out.below hb1)
   have HX1 := Lib.hid (HXB.out.below hb1)
   have hbW1 := below_trans hbWx hb1
   obtain ⟨z0, z1⟩ := HX1.out.c2
   obtain ⟨c0, c1⟩ := (HBX.out.below hbW1).c2
   have hcase : (b = true /\ Z = 0) \/ (b = true /\ Z ≠ 0) \/ (b = false /\ Z = 0) \/ (b = false /\ Z < 0) \/ (b = false /\ 0 < Z) := by
    cases b
    ·rcases Int.lt_trichotomy Z 0 with h1 | h1 | h1
     ·exact .inr (.inr (.inr (.inl ⟨rfl, h1⟩)))
     ·exact .inr (.inr (.inl ⟨rfl, h1⟩))
     ·exact .inr (.inr (.inr (.inr ⟨rfl, h1⟩)))
    ·by_cases h1 : Z = 0
     ·exact .inl ⟨rfl, h1⟩
     ·exact .inr (.inl ⟨rfl, h1⟩)
   have HZ := Lib.hid hZ
   clear HNX HXB hbx HCM y0 y1 hb1 hbWx hbw hZ x0 x1
   rcases hcase with ⟨rfl, hc⟩ | ⟨rfl, hc⟩ | ⟨rfl, hc⟩ | ⟨rfl, hc⟩ | ⟨rfl, hc⟩
   case inr.inl =>
    rw [addG_t1 (by rw [<- show Z = cmpL L (plR x).1 from HZ.out]; exact hc)] at hrr
    have HR2 := Lib.hid hrr
    have he : (Z == 0) = false := by rw [beq_eq_false_iff_ne]; exact hc
    clear hrr HRR
    go_wp2_with (at_builtin; refine wpList_append_nlit rfl (.tmp 43) (.tmp 45) 57 rfl rrow_ty rfl HN1.out.n rfl (by simp) rfl (by simp [Value.oneCell']) (by simp only [maxLen]; omega) (by omega) ?_; intro v3 w3 hn3 ha3; have HD3 := Lib.hid (DTb.snoc (HN1.out.below (below_alloc1 _ _)) (HDX.out _ (below_trans HBW.out (below_trans hbW1 (below_alloc1 _ _)))) hn3 ha3 (by decide) (by decide)); clear hn3 ha3)
    go_roundw
    case rel => exact ⟨k + 1, true, O ++ [x], by omega, by go_num, rfl, by simp at hO ⊢; omega, HD3, Lib.hid (HD3.out.n.lt (by simp)), Lib.hid (by rw [HR2.out, List.map_append, List.append_assoc]; rfl)⟩
    case measure => simp [intOf]; omega
   case inr.inr.inr.inr =>
    rw [addG_f2 (by rw [<- show Z = cmpL L (plR x).1 from HZ.out]; exact hc)] at hrr
    have HR2 := Lib.hid hrr
    have he : (Z == 0) = false := by rw [beq_eq_false_iff_ne]; omega
    have hd : decide (Z < 0) = false := decide_eq_false (by omega)
    clear hrr HRR
    go_wp2_with (at_builtin; refine wpList_append_nlit rfl (.tmp 43) (.tmp 45) 57 rfl rrow_ty rfl HN1.out.n rfl (by simp) rfl (by simp [Value.oneCell']) (by simp only [maxLen]; omega) (by omega) ?_; intro v3 w3 hn3 ha3; have HD3 := Lib.hid (DTb.snoc (x := x) (HN1.out.below (below_alloc1 _ _)) (HDX.out _ (below_trans HBW.out (below_trans hbW1 (below_alloc1 _ _)))) hn3 ha3 (by decide) (by decide)); clear hn3 ha3)
    go_roundw
    case rel => exact ⟨k + 1, false, O ++ [x], by omega, by go_num, rfl, by simp at hO ⊢; omega, HD3, Lib.hid (HD3.out.n.lt (by simp)), Lib.hid (by rw [HR2.out, List.map_append, List.append_assoc]; rfl)⟩
    case measure => simp [intOf]; omega
   case inl =>
    subst hc
    rw [addG_t0 HZ.out.symm] at hrr
    have HR2 := Lib.hid hrr
    have hput := rput_any (.slice x.sa x.ss.length x.sc) x.ss s w1 (HRX.out.2.below (below_trans HBW.out hbW1)) hxs
    have HPUT := Lib.hid hput
    clear hrr HRR hput
    go_wp2_with fail
    refine HPUT.out.mono ?_
    rintro e w2 ⟨pv, rfl, hpn⟩
    obtain ⟨pA, pc, rfl, hpc⟩ := hpn.buf.shape
    have hX2 := HX1.out.below hpn.below
    have HN2 := Lib.hid ((HN1.out.below hpn.below).setX hX2 hWX (fun e => HNE.out _ e rfl) (by decide) (by decide) 1 (.slice pA (putS x.ss s).length pc))
    have HP2 := Lib.hid (nbuf_ke (hpn.after (below_trans HB0.out (below_trans HBW.out hbW1))) (Ke.of_set (Ts := fun U => U = 62) hX2 rfl 1 (.slice pA (putS x.ss s).length pc)) (below_trans HB0.out (below_trans HBW.out HN2.out.n.below)) (by decide))
    have HDX2 := Lib.hid (HDX.out _ (below_trans HBW.out (below_trans HN2.out.n.below (below_alloc1 _ (.cells #[.slice x.la x.ls.length x.lc, .slice pA (putS x.ss s).length pc] 62)))))
    obtain ⟨PS, hPS⟩ : ∃ PS, PS = putS x.ss s := ⟨_, rfl⟩
    obtain ⟨u0, u1⟩ := hX2.c2
    have u2 := hX2.free 1
    rw [<- hPS] at HN2 HP2 HDX2 ⊢
    have HPS := Lib.hid hPS
    clear hX2 hpn z0 z1 c0 c1 HN1 hPS
    go_wp2_with (at_builtin; refine wpList_append_nlit rfl (.tmp 43) (.tmp 45) 57 rfl rrow_ty rfl HN2.out.n rfl (by simp) rfl (by simp [Value.oneCell']) (by simp only [maxLen]; omega) (by omega) ?_; intro v3 w3 hn3 ha3; have HD3 := Lib.hid (DTb.snoc (x := ⟨x.ls, PS, x.la, x.lc, pA, pc⟩) (HN2.out.below (below_alloc1 _ _)) (⟨(HDX2.out).1, .inr (HP2.out.alloc _)⟩) hn3 ha3 (by decide) (by decide)); clear hn3 ha3)
    go_roundw
    case rel => exact ⟨k + 1, true, _, by omega, by go_num, rfl, by simp at hO ⊢; omega, HD3, Lib.hid (HD3.out.n.lt (by simp)), Lib.hid (by rw [HR2.out, List.map_append, List.append_assoc, HPS.out]; rfl)⟩
    case measure => simp [intOf]; omega
   case inr.inr.inl =>
    subst hc
    rw [addG_f0 HZ.out.symm] at hrr
    have HR2 := Lib.hid hrr
    have hput := rput_any (.slice x.sa x.ss.length x.sc) x.ss s w1 (HRX.out.2.below (below_trans HBW.out hbW1)) hxs
    have HPUT := Lib.hid hput
    clear hrr HRR hput
    go_wp2_with fail
    refine HPUT.out.mono ?_
    rintro e w2 ⟨pv, rfl, hpn⟩
    obtain ⟨pA, pc, rfl, hpc⟩ := hpn.buf.shape
    have hX2 := HX1.out.below hpn.below
    have HN2 := Lib.hid ((HN1.out.below hpn.below).setX hX2 hWX (fun e => HNE.out _ e rfl) (by decide) (by decide) 1 (.slice pA (putS x.ss s).length pc))
    have HP2 := Lib.hid (nbuf_ke (hpn.after (below_trans HB0.out (below_trans HBW.out hbW1))) (Ke.of_set (Ts := fun U => U = 62) hX2 rfl 1 (.slice pA (putS x.ss s).length pc)) (below_trans HB0.out (below_trans HBW.out HN2.out.n.below)) (by decide))
    have HDX2 := Lib.hid (HDX.out _ (below_trans HBW.out (below_trans HN2.out.n.below (below_alloc1 _ (.cells #[.slice x.la x.ls.length x.lc, .slice pA (putS x.ss s).length pc] 62)))))
    obtain ⟨PS, hPS⟩ : ∃ PS, PS = putS x.ss s := ⟨_, rfl⟩
    obtain ⟨u0, u1⟩ := hX2.c2
    have u2 := hX2.free 1
    rw [<- hPS] at HN2 HP2 HDX2 ⊢
    have HPS := Lib.hid hPS
    clear hX2 hpn z0 z1 c0 c1 HN1 hPS
    go_wp2_with (at_builtin; refine wpList_append_nlit rfl (.tmp 43) (.tmp 45) 57 rfl rrow_ty rfl HN2.out.n rfl (by simp) rfl (by simp [Value.oneCell']) (by simp only [maxLen]; omega) (by omega) ?_; intro v3 w3 hn3 ha3; have HD3 := Lib.hid (DTb.snoc (x := ⟨x.ls, PS, x.la, x.lc, pA, pc⟩) (HN2.out.below (below_alloc1 _ _)) (⟨(HDX2.out).1, .inr (HP2.out.alloc _)⟩) hn3 ha3 (by decide) (by decide)); clear hn3 ha3)
    go_roundw
    case rel => exact ⟨k + 1, true, _, by omega, by go_num, rfl, by simp at hO ⊢; omega, HD3, Lib.hid (HD3.out.n.lt (by simp)), Lib.hid (by rw [HR2.out, List.map_append, List.append_assoc, HPS.out]; rfl)⟩
    case measure => simp [intOf]; omega
   case inr.inr.inr.inl =>
    rw [addG_f1 (by rw [<- show Z = cmpL L (plR x).1 from HZ.out]; exact hc)] at hrr
    have HR2 := Lib.hid hrr
    have he : (Z == 0) = false := by rw [beq_eq_false_iff_ne]; omega
    have hd : decide (Z < 0) = true := decide_eq_true hc
    have hn2 := (HN1.out.below (below_alloc1 w1 (.cells #[.int .i64 s.1, .int .u64 (s.2 : Nat)] 41)))
    have hlit := nbuf_lit (W := W0) (w := w1) (below_trans HB0.out (below_trans HBW.out hbW1)) 41 2 1 (smc [s]) rfl (by decide)
    have HN2 := Lib.hid hn2
    have HLT := Lib.hid hlit
    have HX2 := Lib.hid (HX1.out.below (below_alloc1 w1 (.cells #[.int .i64 s.1, .int .u64 (s.2 : Nat)] 41)))
    clear hrr HRR hn2 hlit
    go_wp2_with (at_builtin; first | (refine wpList_append_nlit rfl (.tmp 36) (.tmp 41) 57 rfl rrow_ty rfl HN2.out.n rfl (by simp) rfl (by simp [Value.oneCell']) (by simp only [maxLen]; omega) (by omega) ?_; intro v2 w2 hn2 ha2; have hd2 := DTb.snoc (x := ⟨L, [s], LA, Lc, some ⟨w1.heap.size, 0, none⟩, 1⟩) (HN2.out.below (below_alloc1 _ _)) ⟨HLD.out.imp id (fun h => h.then_below (below_trans HBW.out (below_trans HN2.out.n.below (below_alloc1 _ _)))), .inr (HLT.out.alloc _)⟩ hn2 ha2 (by decide) (by decide); have hx2 := (blk_ap (HX2.out.alloc _) ha2 (fun e => HNE.out _ e rfl)).c2; have HD2 := Lib.hid hd2; obtain ⟨u0, u1⟩ := hx2; clear hn2 ha2 hd2) | (refine wpList_append_nlit rfl (.tmp 43) (.tmp 45) 57 rfl rrow_ty rfl HD2.out.n rfl (by simp) rfl (by simp [Value.oneCell']) (by simp only [maxLen, List.length_append, List.length_cons, List.length_nil]; omega) (by simp only [List.length_append, List.length_cons, List.length_nil]; omega) ?_; intro v3 w3 hn3 ha3; have HD3 := Lib.hid (DTb.snoc (x := x) (HD2.out.below (below_alloc1 _ _)) (HDX.out _ (below_trans HBW.out (below_trans HD2.out.n.below (below_alloc1 _ _)))) hn3 ha3 (by decide) (by decide)); clear hn3 ha3))
    go_roundw
    case rel => exact ⟨k + 1, true, _, by omega, by go_num, rfl, by simp at hO ⊢; omega, HD3, Lib.hid (HD3.out.n.lt (by simp)), Lib.hid (by rw [HR2.out, List.map_append, List.map_append, List.append_assoc, List.append_assoc]; rfl)⟩
    case measure => simp [intOf]; omega
  ·obtain rfl : k = t.length := by omega
   have hrr := HRR.out
   rw [List.drop_of_length_le (by rw [List.length_map]; exact Nat.le_refl _)] at hrr
   have hO2 : O.length <= t.length + 1 := by cases b <;> simp at hO <;> omega
   obtain ⟨c0, c1⟩ := (HBX.out.below hbw).c2
   rcases b with _ | _
   ·have hrr : R = O.map plR ++ [(L, [s])] := hrr
    have HR2 := Lib.hid hrr
    have HN2 := Lib.hid (HNB.out.below (below_alloc1 wr (.cells #[.int .i64 s.1, .int .u64 (s.2 : Nat)] 41)))
    have HLT := Lib.hid (nbuf_lit (W := W0) (w := wr) (below_trans HB0.out (below_trans HBW.out hbw)) 41 2 1 (smc [s]) rfl (by decide))
    clear hrr HRR
    go_wp2_with (at_builtin; refine wpList_append_nlit rfl (.tmp 50) (.tmp 55) 57 rfl rrow_ty rfl HN2.out.n rfl (by simp) rfl (by simp [Value.oneCell']) (by simp only [maxLen]; omega) (by omega) ?_; intro v2 w2 hn2 ha2; have hd2 := DTb.snoc (x := ⟨L, [s], LA, Lc, some ⟨wr.heap.size, 0, none⟩, 1⟩) (HN2.out.below (below_alloc1 _ _)) ⟨HLD.out.imp id (fun h => h.then_below (below_trans HBW.out (below_trans HN2.out.n.below (below_alloc1 _ _)))), .inr (HLT.out.alloc _)⟩ hn2 ha2 (by decide) (by decide); have HD2 := Lib.hid hd2; clear hn2 ha2 hd2)
    go_ret
    exact ⟨_, _, rfl, HD2.out.after HBW.out HB0.out, by rw [List.map_append, HR2.out]; rfl⟩
   ·have hrr : R = O.map plR := by rw [hrr]; exact List.append_nil _
    have HR2 := Lib.hid hrr
    clear hrr HRR
    go_wp2_with fail
    go_ret
    exact ⟨_, _, rfl, HNB.out.after HBW.out HB0.out, HR2.out.symm⟩
end Go.Proofs.YtgabmfibfikdbaaGreatDoor
