/-
 Layer 16: the walk of the reference's Table.
-/
import Derived.Test.YtgabmfibfikdbaaGreatDoorZBokHd
import Derived.Test.YtgabmfibfikdbaaGreatDoorZBokV
import Derived.Test.YtgabmfibfikdbaaGreatDoorZBokU

namespace Go.Proofs.YtgabmfibfikdbaaGreatDoor
open Go.RowKit Go.Bar Go.Bar.Leb Go.Bar.Frm Go.Bar.Lab Go.Bar.Xor Go.Bar.Mrg Go.Bar.Met Go.Bar.Bok

def RetTbF (w : World) (R : List Row × Nat) (e : Ending) (w' : World) : Prop := ∃ v t, e = .returned (.tuple #[v, .int .i64 (R.2 : Nat)]) ∧ RTb w w' 62 v t ∧ t.map plR = R.1
theorem RetTbF.no {w w' : World} {e : Nat} (h : Below w.heap.size w w') : RetTbF w ([], e) (.returned (.tuple #[.slice none 0 0, .int .i64 (e : Nat)])) w' := ⟨_, [], rfl, ⟨NBuf.nil h _ _, fun x hx => by cases hx⟩, rfl⟩

set_option maxHeartbeats 32000000 in
set_option maxRecDepth 10000 in
theorem rtable_any (m : Mt) (f0 f1 : Fl) (hm : m.fs = [f0, f1]) (fv sv : Value) (C I : List UInt8) (w : World) (hF : FlsAt w fv m.fs) (hC : C.length ≤ 10000) (hI : I.length ≤ 2097152) :
  Calls Tryz.prog 33 #[.agg #[.string (bs m.id), .int .i64 m.mn, .int .i64 m.mx, .int .i64 m.lv, .int .i64 m.sr, .int .i64 m.sm, fv, sv, .string (bs C), .string (bs I)]] w (RetTbF w (tableR m C I)) := by
 obtain ⟨id, mn, mx, lv, sr, sm, fs, ss⟩ := m
 dsimp only at hm hF ⊢
 subst hm
 obtain ⟨fA, fc, rfl, hfc, hfm⟩ := hF.shape
 obtain ⟨n0, z0, m0⟩ := f0
 obtain ⟨n1, z1, m1⟩ := f1
 have hF' := Lib.hid hF
 obtain ⟨R, hR⟩ : ∃ R, R = tableR ⟨id, mn, mx, lv, sr, sm, [⟨n0, z0, m0⟩, ⟨n1, z1, m1⟩], ss⟩ C I := ⟨_, rfl⟩
 rw [← hR]
 unfold tableR holdsB at hR
 obtain ⟨h0, hh0⟩ : ∃ b, b = (z0 == (C.length : Int) && m0 == Frm.sum C) := ⟨_, rfl⟩
 obtain ⟨h1, hh1⟩ : ∃ b, b = (z1 == (I.length : Int) && m1 == Frm.sum I) := ⟨_, rfl⟩
 have hc0 : ∀ w', Calls Tryz.prog 72 #[.agg #[.string (bs n0), .int .i64 z0, .int .u32 m0], .string (bs C)] w' (RetBelow w' (.bool h0)) := fun w' => by rw [hh0]; exact rholds_any n0 C z0 m0 w' (by omega)
 have hc1 : ∀ w', Calls Tryz.prog 72 #[.agg #[.string (bs n1), .int .i64 z1, .int .u32 m1], .string (bs I)] w' (RetBelow w' (.bool h1)) := fun w' => by rw [hh1]; exact rholds_any n1 I z1 m1 w' (by omega)
 have hR2 : R = if (h0 && h1) = false then ([], 4) else if (entriesR I).2 ≠ 0 then ([], (entriesR I).2)
  else if (tRows mn mx C (entriesR I).1 0 []).2.2 ≠ 0 then ([], (tRows mn mx C (entriesR I).1 0 []).2.2)
  else if ((tRows mn mx C (entriesR I).1 0 []).2.1 : Int) ≠ C.length ∨ ((tRows mn mx C (entriesR I).1 0 []).1.length : Int) ≠ sr ∨ (cntR (tRows mn mx C (entriesR I).1 0 []).1 : Int) ≠ sm then ([], 3)
  else ((tRows mn mx C (entriesR I).1 0 []).1, 0) := by rw [hR, hh0, hh1]; rfl
 have HR := Lib.hid hR2
 have HC0 := Lib.hid hc0
 have HC1 := Lib.hid hc1
 clear hF hR hR2 hh0 hh1 hc0 hc1
 have X1 := Blk.new w #[.string (bs id), .int .i64 mn, .int .i64 mx, .int .i64 lv, .int .i64 sr, .int .i64 sm, .slice fA 2 fc, sv, .string (bs C), .string (bs I)] 72
 have b1 := below_al w (.cells #[.string (bs id), .int .i64 mn, .int .i64 mx, .int .i64 lv, .int .i64 sr, .int .i64 sm, .slice fA 2 fc, sv, .string (bs C), .string (bs I)] 72)
 go_enter Tryz.func33, Tryz.ntmps33
 go_upto_region 1 with fail
 obtain ⟨wz, hwz⟩ : ∃ wz, wz = w.alloc (.cells #[.string (bs id), .int .i64 mn, .int .i64 mx, .int .i64 lv, .int .i64 sr, .int .i64 sm, .slice fA 2 fc, sv, .string (bs C), .string (bs I)] 72) := ⟨_, rfl⟩
 obtain ⟨X, hX⟩ : ∃ X, X = w.heap.size := ⟨_, rfl⟩
 have hXw : w.heap.size ≤ X := by omega
 rw [← hwz, ← hX] at X1
 rw [← hwz] at b1 ⊢
 rw [← hX]
 have HX1 := Lib.hid X1
 have HB1 := Lib.hid b1
 have HFA := Lib.hid (hF'.out.below b1)
 obtain ⟨fb, fo, rfl, _, _, _, _⟩ := HFA.out.at_ (i := 0) rfl
 clear hwz hX X1 b1
 cases h0 with
 | false =>
  have hR3 : R = ([], 4) := by rw [HR.out]; rfl
  have HR3 := Lib.hid hR3
  clear hR3 HR HC1
  refine wp_region_known [(2, .slice (some ⟨fb, fo, none⟩) 2 fc), (4, .agg #[.string (bs n0), .int .i64 z0, .int .u32 m0]), (6, .string (bs C)), (7, .bool false)] (by kernel_rfl) 152 (by kernel_rfl) rfl ?_
  repeat (first
   | (refine Chain.step (v := ?_) (a' := ?_) rfl rfl rfl ?_ ?_ ?_; rotate_left 2; (focus (intro w; go_simp; try with_reducible rfl)); focus (simp only [Act.put, pqA, pqS, pqZ]; try rfl))
   | (refine Chain.call (i := 2) (a' := ?_) _ rfl rfl rfl (fun wx hw => ?_) ?_ ?_; rotate_left 1; (focus (obtain ⟨g0, g1, g2, g3, g4, g5, g6, g7, g8, g9⟩ := Blk.c10 (HX1.out.below hw); go_simp; first | exact ⟨rfl, rB⟩ | exact rB)); focus (simp only [Act.put, pqA, pqS, pqZ]; try rfl))
   | (refine Chain.call (i := 4) (a' := ?_) _ rfl rfl rfl (fun wx hw => ?_) ?_ ?_; rotate_left 1; (focus (obtain ⟨_, _, he, _, g0, g1, g2⟩ := (HFA.out.below hw).at_ (i := 0) rfl); (injection he with he); (injection he with e1 e2 _); (subst e1; subst e2); (dsimp only at g0 g1 g2); (simp only [Nat.zero_mul, Nat.add_zero] at g0 g1 g2); (go_simp); (try simp only [Nat.zero_mul, Nat.add_zero]); (first | exact ⟨rfl, rB⟩ | exact rB)); focus (simp only [Act.put, pqA, pqS, pqZ]; try rfl))
   | (refine Chain.call (i := 6) (a' := ?_) _ rfl rfl rfl (fun wx hw => ?_) ?_ ?_; rotate_left 1; (focus (obtain ⟨g0, g1, g2, g3, g4, g5, g6, g7, g8, g9⟩ := Blk.c10 (HX1.out.below hw); go_simp; first | exact ⟨rfl, rB⟩ | exact rB)); focus (simp only [Act.put, pqA, pqS, pqZ]; try rfl))
   | (refine Chain.call (i := 7) (a' := ?_) _ rfl rfl rfl (fun wx hw => ?_) ?_ ?_; rotate_left 1; (focus (go_simp; (with_reducible refine (HC0.out _).mono ?_); exact (fun e w' ⟨h1, h2⟩ => by subst h1; exact ⟨rfl, h2⟩))); focus (simp only [Act.put, pqA, pqS, pqZ]; try rfl))
   | (refine Chain.skip (a' := ?_) rfl rfl rfl ?_ ?_; rotate_left 1; focus (simp only [Act.put, pqA, pqS, pqZ]; try rfl)))
  refine Chain.end_ (fun wz hwz _ => ?_)
  have HBZ := Lib.hid (below_trans HB1.out hwz)
  go_wp2_with fail
  go_ret2
  rw [HR3.out]
  exact RetTbF.no HBZ.out
 | true =>
  cases h1 with
  | false =>
   have hR3 : R = ([], 4) := by rw [HR.out]; rfl
   have HR3 := Lib.hid hR3
   clear hR3 HR
   refine wp_region_known [(2, .slice (some ⟨fb, fo, none⟩) 2 fc), (4, .agg #[.string (bs n0), .int .i64 z0, .int .u32 m0]), (6, .string (bs C)), (7, .bool true), (12, .slice (some ⟨fb, fo, none⟩) 2 fc), (14, .agg #[.string (bs n1), .int .i64 z1, .int .u32 m1]), (16, .string (bs I)), (17, .bool false)] (by kernel_rfl) 152 (by kernel_rfl) rfl ?_
   repeat (first
    | (refine Chain.step (v := ?_) (a' := ?_) rfl rfl rfl ?_ ?_ ?_; rotate_left 2; (focus (intro w; go_simp; try with_reducible rfl)); focus (simp only [Act.put, pqA, pqS, pqZ]; try rfl))
    | (refine Chain.call (i := 2) (a' := ?_) _ rfl rfl rfl (fun wx hw => ?_) ?_ ?_; rotate_left 1; (focus (obtain ⟨g0, g1, g2, g3, g4, g5, g6, g7, g8, g9⟩ := Blk.c10 (HX1.out.below hw); go_simp; first | exact ⟨rfl, rB⟩ | exact rB)); focus (simp only [Act.put, pqA, pqS, pqZ]; try rfl))
    | (refine Chain.call (i := 4) (a' := ?_) _ rfl rfl rfl (fun wx hw => ?_) ?_ ?_; rotate_left 1; (focus (obtain ⟨_, _, he, _, g0, g1, g2⟩ := (HFA.out.below hw).at_ (i := 0) rfl); (injection he with he); (injection he with e1 e2 _); (subst e1; subst e2); (dsimp only at g0 g1 g2); (simp only [Nat.zero_mul, Nat.add_zero] at g0 g1 g2); (go_simp); (try simp only [Nat.zero_mul, Nat.add_zero]); (first | exact ⟨rfl, rB⟩ | exact rB)); focus (simp only [Act.put, pqA, pqS, pqZ]; try rfl))
    | (refine Chain.call (i := 6) (a' := ?_) _ rfl rfl rfl (fun wx hw => ?_) ?_ ?_; rotate_left 1; (focus (obtain ⟨g0, g1, g2, g3, g4, g5, g6, g7, g8, g9⟩ := Blk.c10 (HX1.out.below hw); go_simp; first | exact ⟨rfl, rB⟩ | exact rB)); focus (simp only [Act.put, pqA, pqS, pqZ]; try rfl))
    | (refine Chain.call (i := 7) (a' := ?_) _ rfl rfl rfl (fun wx hw => ?_) ?_ ?_; rotate_left 1; (focus (go_simp; (with_reducible refine (HC0.out _).mono ?_); exact (fun e w' ⟨h1, h2⟩ => by subst h1; exact ⟨rfl, h2⟩))); focus (simp only [Act.put, pqA, pqS, pqZ]; try rfl))
    | (refine Chain.call (i := 12) (a' := ?_) _ rfl rfl rfl (fun wx hw => ?_) ?_ ?_; rotate_left 1; (focus (obtain ⟨g0, g1, g2, g3, g4, g5, g6, g7, g8, g9⟩ := Blk.c10 (HX1.out.below hw); go_simp; first | exact ⟨rfl, rB⟩ | exact rB)); focus (simp only [Act.put, pqA, pqS, pqZ]; try rfl))
    | (refine Chain.call (i := 14) (a' := ?_) _ rfl rfl rfl (fun wx hw => ?_) ?_ ?_; rotate_left 1; (focus (obtain ⟨_, _, he, _, g0, g1, g2⟩ := (HFA.out.below hw).at_ (i := 1) rfl); (injection he with he); (injection he with e1 e2 _); (subst e1; subst e2); (dsimp only at g0 g1 g2); (simp only [Nat.one_mul, Nat.add_assoc] at g0 g1 g2); (go_simp); (try simp only [Nat.one_mul, Nat.add_assoc]); (first | exact ⟨rfl, rB⟩ | exact rB)); focus (simp only [Act.put, pqA, pqS, pqZ]; try rfl))
    | (refine Chain.call (i := 16) (a' := ?_) _ rfl rfl rfl (fun wx hw => ?_) ?_ ?_; rotate_left 1; (focus (obtain ⟨g0, g1, g2, g3, g4, g5, g6, g7, g8, g9⟩ := Blk.c10 (HX1.out.below hw); go_simp; first | exact ⟨rfl, rB⟩ | exact rB)); focus (simp only [Act.put, pqA, pqS, pqZ]; try rfl))
    | (refine Chain.call (i := 17) (a' := ?_) _ rfl rfl rfl (fun wx hw => ?_) ?_ ?_; rotate_left 1; (focus (go_simp; (with_reducible refine (HC1.out _).mono ?_); exact (fun e w' ⟨h1, h2⟩ => by subst h1; exact ⟨rfl, h2⟩))); focus (simp only [Act.put, pqA, pqS, pqZ]; try rfl))
    | (refine Chain.skip (a' := ?_) rfl rfl rfl ?_ ?_; rotate_left 1; focus (simp only [Act.put, pqA, pqS, pqZ]; try rfl)))
   refine Chain.end_ (fun wz hwz _ => ?_)
   have HBZ := Lib.hid (below_trans HB1.out hwz)
   go_wp2_with fail
   go_ret2
   rw [HR3.out]
   exact RetTbF.no HBZ.out
  | true =>
   refine wp_region_known [(2, .slice (some ⟨fb, fo, none⟩) 2 fc), (4, .agg #[.string (bs n0), .int .i64 z0, .int .u32 m0]), (6, .string (bs C)), (7, .bool true), (12, .slice (some ⟨fb, fo, none⟩) 2 fc), (14, .agg #[.string (bs n1), .int .i64 z1, .int .u32 m1]), (16, .string (bs I)), (17, .bool true)] (by kernel_rfl) 152 (by kernel_rfl) rfl ?_
   repeat (first
    | (refine Chain.step (v := ?_) (a' := ?_) rfl rfl rfl ?_ ?_ ?_; rotate_left 2; (focus (intro w; go_simp; try with_reducible rfl)); focus (simp only [Act.put, pqA, pqS, pqZ]; try rfl))
    | (refine Chain.call (i := 2) (a' := ?_) _ rfl rfl rfl (fun wx hw => ?_) ?_ ?_; rotate_left 1; (focus (obtain ⟨g0, g1, g2, g3, g4, g5, g6, g7, g8, g9⟩ := Blk.c10 (HX1.out.below hw); go_simp; first | exact ⟨rfl, rB⟩ | exact rB)); focus (simp only [Act.put, pqA, pqS, pqZ]; try rfl))
    | (refine Chain.call (i := 4) (a' := ?_) _ rfl rfl rfl (fun wx hw => ?_) ?_ ?_; rotate_left 1; (focus (obtain ⟨_, _, he, _, g0, g1, g2⟩ := (HFA.out.below hw).at_ (i := 0) rfl); (injection he with he); (injection he with e1 e2 _); (subst e1; subst e2); (dsimp only at g0 g1 g2); (simp only [Nat.zero_mul, Nat.add_zero] at g0 g1 g2); (go_simp); (try simp only [Nat.zero_mul, Nat.add_zero]); (first | exact ⟨rfl, rB⟩ | exact rB)); focus (simp only [Act.put, pqA, pqS, pqZ]; try rfl))
    | (refine Chain.call (i := 6) (a' := ?_) _ rfl rfl rfl (fun wx hw => ?_) ?_ ?_; rotate_left 1; (focus (obtain ⟨g0, g1, g2, g3, g4, g5, g6, g7, g8, g9⟩ := Blk.c10 (HX1.out.below hw); go_simp; first | exact ⟨rfl, rB⟩ | exact rB)); focus (simp only [Act.put, pqA, pqS, pqZ]; try rfl))
    | (refine Chain.call (i := 7) (a' := ?_) _ rfl rfl rfl (fun wx hw => ?_) ?_ ?_; rotate_left 1; (focus (go_simp; (with_reducible refine (HC0.out _).mono ?_); exact (fun e w' ⟨h1, h2⟩ => by subst h1; exact ⟨rfl, h2⟩))); focus (simp only [Act.put, pqA, pqS, pqZ]; try rfl))
    | (refine Chain.call (i := 12) (a' := ?_) _ rfl rfl rfl (fun wx hw => ?_) ?_ ?_; rotate_left 1; (focus (obtain ⟨g0, g1, g2, g3, g4, g5, g6, g7, g8, g9⟩ := Blk.c10 (HX1.out.below hw); go_simp; first | exact ⟨rfl, rB⟩ | exact rB)); focus (simp only [Act.put, pqA, pqS, pqZ]; try rfl))
    | (refine Chain.call (i := 14) (a' := ?_) _ rfl rfl rfl (fun wx hw => ?_) ?_ ?_; rotate_left 1; (focus (obtain ⟨_, _, he, _, g0, g1, g2⟩ := (HFA.out.below hw).at_ (i := 1) rfl); (injection he with he); (injection he with e1 e2 _); (subst e1; subst e2); (dsimp only at g0 g1 g2); (simp only [Nat.one_mul, Nat.add_assoc] at g0 g1 g2); (go_simp); (try simp only [Nat.one_mul, Nat.add_assoc]); (first | exact ⟨rfl, rB⟩ | exact rB)); focus (simp only [Act.put, pqA, pqS, pqZ]; try rfl))
    | (refine Chain.call (i := 16) (a' := ?_) _ rfl rfl rfl (fun wx hw => ?_) ?_ ?_; rotate_left 1; (focus (obtain ⟨g0, g1, g2, g3, g4, g5, g6, g7, g8, g9⟩ := Blk.c10 (HX1.out.below hw); go_simp; first | exact ⟨rfl, rB⟩ | exact rB)); focus (simp only [Act.put, pqA, pqS, pqZ]; try rfl))
    | (refine Chain.call (i := 17) (a' := ?_) _ rfl rfl rfl (fun wx hw => ?_) ?_ ?_; rotate_left 1; (focus (go_simp; (with_reducible refine (HC1.out _).mono ?_); exact (fun e w' ⟨h1, h2⟩ => by subst h1; exact ⟨rfl, h2⟩))); focus (simp only [Act.put, pqA, pqS, pqZ]; try rfl))
    | (refine Chain.skip (a' := ?_) rfl rfl rfl ?_ ?_; rotate_left 1; focus (simp only [Act.put, pqA, pqS, pqZ]; try rfl)))
   refine Chain.end_ (fun wz hwz _ => ?_)
   have HBZ := Lib.hid (below_trans HB1.out hwz)
   have HXZ := Lib.hid (HX1.out.below hwz)
   clear HX1 HB1 HFA hwz HC0 HC1 hF'
   go_upto_region 3 with fail
   obtain ⟨El, hEl⟩ : ∃ El, El = (entriesR I).1 := ⟨_, rfl⟩
   obtain ⟨ee, hee⟩ : ∃ ee, ee = (entriesR I).2 := ⟨_, rfl⟩
   have hok := entriesR_ok I
   rw [← hEl] at hok
   have hent := rentries_any I wz (by omega)
   have hR1 : ee ≠ 0 → R = ([], ee) := fun h => by
    rw [HR.out]
    simp only [Bool.and_self, Bool.true_eq_false, if_false]
    rw [← hee, if_pos h]
   have hR2 : ee = 0 → (tRows mn mx C El 0 []).2.2 ≠ 0 → R = ([], (tRows mn mx C El 0 []).2.2) := fun h h2 => by
    rw [HR.out]
    simp only [Bool.and_self, Bool.true_eq_false, if_false]
    rw [← hee, if_neg (by omega), ← hEl, if_pos h2]
   have hR3 : ee = 0 → ∀ out a, tRows mn mx C El 0 [] = (out, a, 0) → R = if (a : Int) ≠ C.length ∨ (out.length : Int) ≠ sr ∨ (cntR out : Int) ≠ sm then ([], 3) else (out, 0) := fun h out a h2 => by
    rw [HR.out]
    simp only [Bool.and_self, Bool.true_eq_false, if_false]
    rw [← hee, if_neg (by omega), ← hEl, h2]
    rfl
   have HENT := Lib.hid hent
   have HEL := Lib.hid hEl
   have HEE := Lib.hid hee
   have HOK := Lib.hid hok
   have HR1 := Lib.hid hR1
   have HR2 := Lib.hid hR2
   have HR3 := Lib.hid hR3
   clear hent hEl hee hok hR1 hR2 hR3 HR
   obtain ⟨k0, k1, k2, k3, k4, k5, k6, k7, k8, k9⟩ := HXZ.out.c10
   go_wp2_with fail
   refine HENT.out.mono ?_
   rintro e w1 ⟨v1, es, rfl, hes, hpl⟩
   rw [← HEL.out] at hpl
   rw [← HEE.out]
   obtain ⟨eA, ec, rfl, hec⟩ := hes.n.buf.shape
   have HES1 := Lib.hid hes
   have HPL := Lib.hid hpl
   have HWZ1 := Lib.hid hes.n.below
   have HX1 := Lib.hid (HXZ.out.below hes.n.below)
   have HB1 := Lib.hid (below_trans HBZ.out hes.n.below)
   clear HENT hes hpl HXZ k0 k1 k2 k3 k4 k5 k6 k7 k8 k9
   by_cases he0 : ee = 0
   ·subst he0
    have hr2 : ∀ e, tRows mn mx C El 0 [] = ([], 0, e) → e ≠ 0 → R = ([], e) := fun e h he => by
     have h2 := HR2.out rfl (by rw [h]; exact he)
     rw [h] at h2
     exact h2
    have HR2' := Lib.hid hr2
    have HR3' := Lib.hid (HR3.out rfl)
    obtain ⟨EN, hEN⟩ : ∃ EN, EN = es.length := ⟨_, rfl⟩
    have hENl : EN ≤ 10000 := by
     have h1 := HOK.out.2
     have h2 := congrArg List.length HPL.out
     rw [List.length_map] at h2
     omega
    rw [← hEN] at HES1 hec ⊢
    have HEN := Lib.hid hEN
    clear hEN HR1 HR2 HR3 hr2
    go_upto_region 7 with fail
    obtain ⟨wA, hwA⟩ : ∃ wA, wA = w1.alloc (.cells #[] 62) := ⟨_, rfl⟩
    have hbA : Below w1.heap.size w1 wA := by rw [hwA]; exact below_al _ _
    have hd0 : DTb wz wz w1 wA 62 146 (.slice (some ⟨w1.heap.size, 0, none⟩) 0 0) [] := by
     rw [hwA]
     exact ⟨NBuf.lit0 (Below.refl w1.heap.size w1) 62 2, HWZ1.out, fun x hx => by cases hx⟩
    rw [← hwA]
    obtain ⟨OB, hOB⟩ : ∃ OB, OB = w1.heap.size := ⟨_, rfl⟩
    rw [← hOB] at hd0 ⊢
    have HD0 := Lib.hid hd0
    have HXA := Lib.hid (HX1.out.below hbA)
    have HESA := Lib.hid (HES1.out.below hbA)
    clear hwA hOB hbA hd0 HX1 HES1
    obtain ⟨k0, k1, k2, k3, k4, k5, k6, k7, k8, k9⟩ := HXA.out.c10
    go_upto_region 10 with fail
    clear k0 k1 k2 k3 k4 k5 k6 k7 k8 k9
    go_loopw [47, 7, 8, 6] (fun iv fv_ nv ov wr => ∃ (k a : Nat) (Lf : List UInt8) (cn : Nat) (t : List Rv), iv = .int .i64 k ∧ fv_ = .string (bs Lf) ∧ nv = .int .i64 (cn : Nat) ∧ k ≤ EN ∧ Lf.length + a ≤ C.length ∧ C.length ≤ Lf.length + a ∧ cn ≤ 20 * a ∧ t.length = k ∧ Hid (Lf = C.drop a) ∧ Hid (DTb wz wz w1 wr 62 146 ov t) ∧ Hid (tRows mn mx C El 0 [] = tRows mn mx C (El.drop k) a (t.map plR)) ∧
     Hid (DEs wz wz wz wr 114 146 (.slice eA EN ec) es) ∧ Hid (Blk wr X 72 #[.string (bs id), .int .i64 mn, .int .i64 mx, .int .i64 lv, .int .i64 sr, .int .i64 sm, .slice (some ⟨fb, fo, none⟩) 2 fc, sv, .string (bs C), .string (bs I)]) ∧ Hid (cn = cntR (t.map plR))) (fun iv _ _ _ _ => EN - (intOf iv).toNat)
    case atStart => exact ⟨0, 0, C, 0, [], rfl, rfl, rfl, Nat.zero_le _, Nat.le_refl _, Nat.le_refl _, Nat.zero_le _, rfl, Lib.hid rfl, HD0, Lib.hid rfl, HESA, HXA, Lib.hid rfl⟩
    case round =>
     obtain ⟨k, a, Lf, cn, t, rfl, rfl, rfl, hk, hl1, hl2, hcn, htl, HLF, HT, HTR, HES, HX, HCT⟩ := hrel
     clear HXA HESA HD0
     obtain ⟨oA, oc, rfl, hoc⟩ := HT.out.n.buf.shape
     have HTL := Lib.hid htl
     have htb : t.length ≤ 10000 := by omega
     clear htl
     have HBR := Lib.hid (below_trans HB1.out HT.out.n.below)
     by_cases hgo : k < EN
     ·obtain ⟨⟨ls, la, lc, fr, n, xmn, xmx⟩, hx⟩ : ∃ x, es[k]? = some x := ⟨_, List.getElem?_eq_getElem (by rw [← HEN.out]; exact hgo)⟩
      have hent := HES.out.at_ HES.out.n.below
      obtain ⟨eb, eo, rfl, _, hps, g0, g1, g2, g3, g4⟩ := hent.at_ hx
      have hEk : El[k]? = some ⟨ls, fr, n, xmn, xmx⟩ := by rw [← HPL.out, List.getElem?_map, hx]; rfl
      have hat := tRows_at (mn := mn) (mx := mx) (C := C) (a := a) (out := t.map plR) hEk
      have hn1 := (HOK.out.1 _ (List.mem_of_getElem? hEk)).n
      dsimp only at hat hn1 g0 g1 g2 g3 g4
      obtain ⟨nn, rfl⟩ : ∃ nn : Nat, n = nn := ⟨n.toNat, by omega⟩
      rw [← HTR.out] at hat
      rw [show ((nn : Int)).toNat = nn by omega] at hat
      have HAT := Lib.hid hat
      have HDE := Lib.hid (HES.out.d _ (List.mem_of_getElem? hx))
      clear hent hps hEk hat hx
      obtain ⟨wb, hwb⟩ : ∃ wb, wb = wr.alloc (.cells #[.slice la ls.length lc, .int .i64 fr, .int .i64 (nn : Int), .int .i64 xmn, .int .i64 xmx] 114) := ⟨_, rfl⟩
      have hb2 : Below wr.heap.size wr wb := by rw [hwb]; exact below_al _ _
      have HZ : Hid (Blk wb wr.heap.size 114 #[.slice la ls.length lc, .int .i64 fr, .int .i64 (nn : Int), .int .i64 xmn, .int .i64 xmx]) := Lib.hid (by rw [hwb]; exact Blk.new _ _ _)
      have HX4 := Lib.hid (HX.out.below hb2)
      have HT4 := Lib.hid (HT.out.below hb2)
      have HES4 := Lib.hid (HES.out.below hb2)
      have HDE4 := Lib.hid (HDE.out.below hb2)
      have HB4 := Lib.hid (below_trans HBR.out hb2)
      have HBW4 := Lib.hid (below_trans (below_trans HWZ1.out HT.out.n.below) hb2)
      clear HX HT HES HDE HBR
      go_upto_region 12 with fail
      rw [← hwb]
      obtain ⟨Q, hQ⟩ : ∃ Q, Q = wr.heap.size := ⟨_, rfl⟩
      rw [← hQ] at HZ ⊢
      clear hwb hQ hb2 g0 g1 g2 g3 g4
      obtain ⟨r0, r1, r2, r3, r4⟩ := HZ.out.c5
      obtain ⟨k0, k1, k2, k3, k4, k5, k6, k7, k8, k9⟩ := HX4.out.c10
      have hwl : IntKind.i64.wrap ((C.length : Int) - (Lf.length : Int)) = (a : Int) := by rw [IntKind.wrap_i64]; omega
      by_cases hfr : fr = (a : Int)
      ·subst hfr
       by_cases hnl : (Lf.length : Int) < (nn : Int)
       ·have hnd : decide ((Lf.length : Int) < (nn : Int)) = true := decide_eq_true hnl
        have HRX := Lib.hid (HR2'.out 3 (by rw [HAT.out, if_pos (.inr (by omega))]) (by decide))
        go_wp2_with fail
        go_ret2
        rw [HRX.out]
        exact RetTbF.no HB4.out
       ·have hnd : decide ((Lf.length : Int) < (nn : Int)) = false := decide_eq_false hnl
        obtain ⟨D, hD⟩ : ∃ D, D = (C.drop a).take nn := ⟨_, rfl⟩
        obtain ⟨L2, hL2⟩ : ∃ L2, L2 = C.drop (a + nn) := ⟨_, rfl⟩
        have hDl : D.length = nn := by rw [hD, List.length_take, List.length_drop]; omega
        have hL2a : L2.length + (a + nn) ≤ C.length := by rw [hL2, List.length_drop]; omega
        have hL2b : C.length ≤ L2.length + (a + nn) := by rw [hL2, List.length_drop]; omega
        have hbx : (bs Lf).extract 0 nn = bs D := by rw [bs_extract, Nat.sub_zero, List.drop_zero, hD, HLF.out]
        have hbx2 : (bs Lf).extract nn Lf.length = bs L2 := by
         rw [bs_extract, HLF.out, hL2, List.drop_drop, List.take_of_length_le (by rw [List.length_drop, List.length_drop]; omega)]
        rw [← hD, if_neg (by omega)] at HAT
        have hsm := smpsR_len D
        obtain ⟨S, hS⟩ : ∃ S, S = (smpsR D).1 := ⟨_, rfl⟩
        obtain ⟨se, hse⟩ : ∃ se, se = (smpsR D).2 := ⟨_, rfl⟩
        have hch := rsmps_any D wb (by omega)
        have HCH := Lib.hid hch
        have HS := Lib.hid hS
        have HSE := Lib.hid hse
        have HL2 := Lib.hid hL2
        rw [← hS, ← hse] at HAT
        rw [← hS] at hsm
        have hsm2 : S.length ≤ 20 * nn := by omega
        clear hD hch hS hse hL2 hsm hDl
        go_wp2_with fail
        refine HCH.out.mono ?_
        rintro e w5 ⟨v5, rfl, hn5⟩
        rw [← HS.out] at hn5
        rw [← HSE.out]
        obtain ⟨sA, sc, rfl, hsc⟩ := hn5.buf.shape
        have HN5 := Lib.hid hn5
        have HX5 := Lib.hid (HX4.out.below hn5.below)
        have HT5 := Lib.hid (HT4.out.below hn5.below)
        have HES5 := Lib.hid (HES4.out.below hn5.below)
        have HDE5 := Lib.hid (HDE4.out.below hn5.below)
        have HZ5 := Lib.hid (HZ.out.below hn5.below)
        have HB5 := Lib.hid (below_trans HB4.out hn5.below)
        clear HX4 HT4 HES4 HDE4 HZ HB4 hn5 HCH r0 r1 r2 r3 r4 k0 k1 k2 k3 k4 k5 k6 k7 k8 k9 hwl
        by_cases hse0 : se = 0
        ·subst hse0
         rw [if_neg (by omega)] at HAT
         obtain ⟨r0, r1, r2, r3, r4⟩ := HZ5.out.c5
         go_upto_region 18 with fail
         clear r0 r1 r2 r3 r4
         rcases hq0 : S with _ | ⟨s0, sr0⟩
         ·subst hq0
          have HRX := Lib.hid (HR2'.out 3 (by rw [HAT.out, if_pos (.inl rfl)]) (by decide))
          refine wp_region_known [] (by kernel_rfl) 152 (by kernel_rfl) rfl ?_
          repeat (first
           | (refine Chain.step (v := ?_) (a' := ?_) rfl rfl rfl ?_ ?_ ?_; rotate_left 2; (focus (intro w; go_simp; try with_reducible rfl)); focus (simp only [Act.put, pqA, pqS, pqZ]; try rfl))
           | (refine Chain.skip (a' := ?_) rfl rfl rfl ?_ ?_; rotate_left 1; focus (simp only [Act.put, pqA, pqS, pqZ]; try rfl)))
          refine Chain.end_ (fun wy hwy _ => ?_)
          have HBY := Lib.hid (below_trans HB5.out hwy)
          go_wp2_with fail
          go_ret2
          rw [HRX.out]
          exact RetTbF.no HBY.out
         ·rw [← hq0]
          obtain ⟨q, hq⟩ : ∃ q, S.length = q + 1 := ⟨sr0.length, by rw [hq0]; rfl⟩
          obtain ⟨⟨yt, yv⟩, hy⟩ : ∃ y, S[0]? = some y := ⟨_, List.getElem?_eq_getElem (by omega)⟩
          obtain ⟨⟨zt, zv⟩, hz⟩ : ∃ z, S[q]? = some z := ⟨_, List.getElem?_eq_getElem (by omega)⟩
          have hfy := first_at2 hy
          have hlz := last_at2 hq hz
          have hsz : ((S.length : Int) == 0) = false := by rw [beq_eq_false_iff_ne]; omega
          have hqw : IntKind.i64.wrap ((S.length : Int) - 1) = (q : Int) := by rw [IntKind.wrap_i64]; omega
          have hqn : (q : Int) < (S.length : Int) := by omega
          have hqn0 : (0 : Int) ≤ (q : Int) := by omega
          have hsne : ¬ S = [] := by rw [hq0]; simp
          have hps0 : (0 : Int) < (S.length : Int) := by omega
          have hps1 : 0 < S.length := by omega
          obtain ⟨sb, so, e1, hsb, f0, _⟩ := SmsAt.at_ (l := S) HN5.out.slice hy
          obtain ⟨sb2, so2, e2, _, f1, _⟩ := SmsAt.at_ (l := S) HN5.out.slice hz
          subst e1
          injection e2 with e2
          injection e2 with e3 e4 _
          subst e3; subst e4
          simp only [Nat.zero_mul, Nat.add_zero] at f0
          rw [hfy, hlz] at HAT
          have HYC : Hid (∀ w', Below w5.heap.size w5 w' → w'.cell? ⟨sb, so, none⟩ = some (.int .i64 yt)) := Lib.hid fun w' hb => (Below.cell hb hsb).trans f0
          have HZC : Hid (∀ w', Below w5.heap.size w5 w' → w'.cell? ⟨sb, so + q * 2, none⟩ = some (.int .i64 zt)) := Lib.hid fun w' hb => (Below.cell hb hsb).trans f1
          have HSNE := Lib.hid hsne
          clear hfy hlz hy hz hq hq0 f0 f1 hsne
          dsimp only at HAT
          by_cases hc0 : yt = xmn
          rotate_left 1
          ·have hb0 : (yt == xmn) = false := by rw [beq_eq_false_iff_ne]; exact hc0
           have hbb0 : (yt != xmn) = true := by rw [bne_iff_ne]; exact hc0
           have HRX := Lib.hid (HR2'.out 3 (by rw [HAT.out, if_pos (.inr (.inl hc0))]) (by decide))
           refine wp_region_known [(7, .int .i64 yt), (9, .int .i64 xmn)] (by kernel_rfl) 152 (by kernel_rfl) rfl ?_
           repeat (first
            | (refine Chain.step (v := ?_) (a' := ?_) rfl rfl rfl ?_ ?_ ?_; rotate_left 2; (focus (intro w; go_simp; try with_reducible rfl)); focus (simp only [Act.put, pqA, pqS, pqZ]; try rfl))
            | (refine Chain.call (i := 7) (a' := ?_) _ rfl rfl rfl (fun wx hw => ?_) ?_ ?_; rotate_left 1; (focus (have g0 := HYC.out _ hw); (go_simp); (first | exact ⟨rfl, rB⟩ | exact rB)); focus (simp only [Act.put, pqA, pqS, pqZ]; try rfl))
            | (refine Chain.call (i := 9) (a' := ?_) _ rfl rfl rfl (fun wx hw => ?_) ?_ ?_; rotate_left 1; (focus (obtain ⟨g0, g1, g2, g3, g4⟩ := Blk.c5 (HZ5.out.below hw); go_simp; first | exact ⟨rfl, rB⟩ | exact rB)); focus (simp only [Act.put, pqA, pqS, pqZ]; try rfl))
            | (refine Chain.skip (a' := ?_) rfl rfl rfl ?_ ?_; rotate_left 1; focus (simp only [Act.put, pqA, pqS, pqZ]; try rfl)))
           refine Chain.end_ (fun wy hwy _ => ?_)
           have HBY := Lib.hid (below_trans HB5.out hwy)
           go_wp2_with fail
           go_ret2
           rw [HRX.out]
           exact RetTbF.no HBY.out
          ·subst hc0
           by_cases hc1 : zt = xmx
           rotate_left 1
           ·have hb1 : (zt == xmx) = false := by rw [beq_eq_false_iff_ne]; exact hc1
            have hbb1 : (zt != xmx) = true := by rw [bne_iff_ne]; exact hc1
            have HRX := Lib.hid (HR2'.out 3 (by rw [HAT.out, if_pos (.inr (.inr (.inl hc1)))]) (by decide))
            refine wp_region_known [(7, .int .i64 yt), (9, .int .i64 yt), (19, .int .i64 zt), (21, .int .i64 xmx)] (by kernel_rfl) 152 (by kernel_rfl) rfl ?_
            repeat (first
             | (refine Chain.step (v := ?_) (a' := ?_) rfl rfl rfl ?_ ?_ ?_; rotate_left 2; (focus (intro w; go_simp; try with_reducible rfl)); focus (simp only [Act.put, pqA, pqS, pqZ]; try rfl))
             | (refine Chain.call (i := 7) (a' := ?_) _ rfl rfl rfl (fun wx hw => ?_) ?_ ?_; rotate_left 1; (focus (have g0 := HYC.out _ hw); (go_simp); (first | exact ⟨rfl, rB⟩ | exact rB)); focus (simp only [Act.put, pqA, pqS, pqZ]; try rfl))
             | (refine Chain.call (i := 9) (a' := ?_) _ rfl rfl rfl (fun wx hw => ?_) ?_ ?_; rotate_left 1; (focus (obtain ⟨g0, g1, g2, g3, g4⟩ := Blk.c5 (HZ5.out.below hw); go_simp; first | exact ⟨rfl, rB⟩ | exact rB)); focus (simp only [Act.put, pqA, pqS, pqZ]; try rfl))
             | (refine Chain.call (i := 19) (a' := ?_) _ rfl rfl rfl (fun wx hw => ?_) ?_ ?_; rotate_left 1; (focus (have g0 := HZC.out _ hw); (go_simp); (first | exact ⟨rfl, rB⟩ | exact rB)); focus (simp only [Act.put, pqA, pqS, pqZ]; try rfl))
             | (refine Chain.call (i := 21) (a' := ?_) _ rfl rfl rfl (fun wx hw => ?_) ?_ ?_; rotate_left 1; (focus (obtain ⟨g0, g1, g2, g3, g4⟩ := Blk.c5 (HZ5.out.below hw); go_simp; first | exact ⟨rfl, rB⟩ | exact rB)); focus (simp only [Act.put, pqA, pqS, pqZ]; try rfl))
             | (refine Chain.skip (a' := ?_) rfl rfl rfl ?_ ?_; rotate_left 1; focus (simp only [Act.put, pqA, pqS, pqZ]; try rfl)))
            refine Chain.end_ (fun wy hwy _ => ?_)
            have HBY := Lib.hid (below_trans HB5.out hwy)
            go_wp2_with fail
            go_ret2
            rw [HRX.out]
            exact RetTbF.no HBY.out
           ·subst hc1
            by_cases hc2 : yt < mn
            ·have hb2 : decide (yt < mn) = true := decide_eq_true hc2
             have HRX := Lib.hid (HR2'.out 3 (by rw [HAT.out, if_pos (.inr (.inr (.inr (.inl hc2))))]) (by decide))
             refine wp_region_known [(7, .int .i64 yt), (9, .int .i64 yt), (19, .int .i64 zt), (21, .int .i64 zt), (26, .int .i64 yt), (29, .int .i64 mn)] (by kernel_rfl) 152 (by kernel_rfl) rfl ?_
             repeat (first
              | (refine Chain.step (v := ?_) (a' := ?_) rfl rfl rfl ?_ ?_ ?_; rotate_left 2; (focus (intro w; go_simp; try with_reducible rfl)); focus (simp only [Act.put, pqA, pqS, pqZ]; try rfl))
              | (refine Chain.call (i := 7) (a' := ?_) _ rfl rfl rfl (fun wx hw => ?_) ?_ ?_; rotate_left 1; (focus (have g0 := HYC.out _ hw); (go_simp); (first | exact ⟨rfl, rB⟩ | exact rB)); focus (simp only [Act.put, pqA, pqS, pqZ]; try rfl))
              | (refine Chain.call (i := 9) (a' := ?_) _ rfl rfl rfl (fun wx hw => ?_) ?_ ?_; rotate_left 1; (focus (obtain ⟨g0, g1, g2, g3, g4⟩ := Blk.c5 (HZ5.out.below hw); go_simp; first | exact ⟨rfl, rB⟩ | exact rB)); focus (simp only [Act.put, pqA, pqS, pqZ]; try rfl))
              | (refine Chain.call (i := 19) (a' := ?_) _ rfl rfl rfl (fun wx hw => ?_) ?_ ?_; rotate_left 1; (focus (have g0 := HZC.out _ hw); (go_simp); (first | exact ⟨rfl, rB⟩ | exact rB)); focus (simp only [Act.put, pqA, pqS, pqZ]; try rfl))
              | (refine Chain.call (i := 21) (a' := ?_) _ rfl rfl rfl (fun wx hw => ?_) ?_ ?_; rotate_left 1; (focus (obtain ⟨g0, g1, g2, g3, g4⟩ := Blk.c5 (HZ5.out.below hw); go_simp; first | exact ⟨rfl, rB⟩ | exact rB)); focus (simp only [Act.put, pqA, pqS, pqZ]; try rfl))
              | (refine Chain.call (i := 26) (a' := ?_) _ rfl rfl rfl (fun wx hw => ?_) ?_ ?_; rotate_left 1; (focus (obtain ⟨g0, g1, g2, g3, g4⟩ := Blk.c5 (HZ5.out.below hw); go_simp; first | exact ⟨rfl, rB⟩ | exact rB)); focus (simp only [Act.put, pqA, pqS, pqZ]; try rfl))
              | (refine Chain.call (i := 29) (a' := ?_) _ rfl rfl rfl (fun wx hw => ?_) ?_ ?_; rotate_left 1; (focus (obtain ⟨g0, g1, g2, g3, g4, g5, g6, g7, g8, g9⟩ := Blk.c10 (HX5.out.below hw); go_simp; first | exact ⟨rfl, rB⟩ | exact rB)); focus (simp only [Act.put, pqA, pqS, pqZ]; try rfl))
              | (refine Chain.skip (a' := ?_) rfl rfl rfl ?_ ?_; rotate_left 1; focus (simp only [Act.put, pqA, pqS, pqZ]; try rfl)))
             refine Chain.end_ (fun wy hwy _ => ?_)
             have HBY := Lib.hid (below_trans HB5.out hwy)
             go_wp2_with fail
             go_ret2
             rw [HRX.out]
             exact RetTbF.no HBY.out
            ·have hb2 : decide (yt < mn) = false := decide_eq_false hc2
             by_cases hc3 : mx ≤ zt
             ·have hb3 : decide (mx ≤ zt) = true := decide_eq_true hc3
              have HRX := Lib.hid (HR2'.out 3 (by rw [HAT.out, if_pos (.inr (.inr (.inr (.inr hc3))))]) (by decide))
              refine wp_region_known [(7, .int .i64 yt), (9, .int .i64 yt), (19, .int .i64 zt), (21, .int .i64 zt), (26, .int .i64 yt), (29, .int .i64 mn), (34, .int .i64 zt), (37, .int .i64 mx)] (by kernel_rfl) 152 (by kernel_rfl) rfl ?_
              repeat (first
               | (refine Chain.step (v := ?_) (a' := ?_) rfl rfl rfl ?_ ?_ ?_; rotate_left 2; (focus (intro w; go_simp; try with_reducible rfl)); focus (simp only [Act.put, pqA, pqS, pqZ]; try rfl))
               | (refine Chain.call (i := 7) (a' := ?_) _ rfl rfl rfl (fun wx hw => ?_) ?_ ?_; rotate_left 1; (focus (have g0 := HYC.out _ hw); (go_simp); (first | exact ⟨rfl, rB⟩ | exact rB)); focus (simp only [Act.put, pqA, pqS, pqZ]; try rfl))
               | (refine Chain.call (i := 9) (a' := ?_) _ rfl rfl rfl (fun wx hw => ?_) ?_ ?_; rotate_left 1; (focus (obtain ⟨g0, g1, g2, g3, g4⟩ := Blk.c5 (HZ5.out.below hw); go_simp; first | exact ⟨rfl, rB⟩ | exact rB)); focus (simp only [Act.put, pqA, pqS, pqZ]; try rfl))
               | (refine Chain.call (i := 19) (a' := ?_) _ rfl rfl rfl (fun wx hw => ?_) ?_ ?_; rotate_left 1; (focus (have g0 := HZC.out _ hw); (go_simp); (first | exact ⟨rfl, rB⟩ | exact rB)); focus (simp only [Act.put, pqA, pqS, pqZ]; try rfl))
               | (refine Chain.call (i := 21) (a' := ?_) _ rfl rfl rfl (fun wx hw => ?_) ?_ ?_; rotate_left 1; (focus (obtain ⟨g0, g1, g2, g3, g4⟩ := Blk.c5 (HZ5.out.below hw); go_simp; first | exact ⟨rfl, rB⟩ | exact rB)); focus (simp only [Act.put, pqA, pqS, pqZ]; try rfl))
               | (refine Chain.call (i := 26) (a' := ?_) _ rfl rfl rfl (fun wx hw => ?_) ?_ ?_; rotate_left 1; (focus (obtain ⟨g0, g1, g2, g3, g4⟩ := Blk.c5 (HZ5.out.below hw); go_simp; first | exact ⟨rfl, rB⟩ | exact rB)); focus (simp only [Act.put, pqA, pqS, pqZ]; try rfl))
               | (refine Chain.call (i := 29) (a' := ?_) _ rfl rfl rfl (fun wx hw => ?_) ?_ ?_; rotate_left 1; (focus (obtain ⟨g0, g1, g2, g3, g4, g5, g6, g7, g8, g9⟩ := Blk.c10 (HX5.out.below hw); go_simp; first | exact ⟨rfl, rB⟩ | exact rB)); focus (simp only [Act.put, pqA, pqS, pqZ]; try rfl))
               | (refine Chain.call (i := 34) (a' := ?_) _ rfl rfl rfl (fun wx hw => ?_) ?_ ?_; rotate_left 1; (focus (obtain ⟨g0, g1, g2, g3, g4⟩ := Blk.c5 (HZ5.out.below hw); go_simp; first | exact ⟨rfl, rB⟩ | exact rB)); focus (simp only [Act.put, pqA, pqS, pqZ]; try rfl))
               | (refine Chain.call (i := 37) (a' := ?_) _ rfl rfl rfl (fun wx hw => ?_) ?_ ?_; rotate_left 1; (focus (obtain ⟨g0, g1, g2, g3, g4, g5, g6, g7, g8, g9⟩ := Blk.c10 (HX5.out.below hw); go_simp; first | exact ⟨rfl, rB⟩ | exact rB)); focus (simp only [Act.put, pqA, pqS, pqZ]; try rfl))
               | (refine Chain.skip (a' := ?_) rfl rfl rfl ?_ ?_; rotate_left 1; focus (simp only [Act.put, pqA, pqS, pqZ]; try rfl)))
              refine Chain.end_ (fun wy hwy _ => ?_)
              have HBY := Lib.hid (below_trans HB5.out hwy)
              go_wp2_with fail
              go_ret2
              rw [HRX.out]
              exact RetTbF.no HBY.out
             ·have hb3 : decide (mx ≤ zt) = false := decide_eq_false hc3
              rw [if_neg (by rintro (h | h | h | h | h); exact HSNE.out h; exact h rfl; exact h rfl; exact hc2 h; exact hc3 h)] at HAT
              have hcnw : IntKind.i64.wrap ((cn : Int) + (S.length : Int)) = ((cn + S.length : Nat) : Int) := by rw [IntKind.wrap_i64]; omega
              refine wp_region_known [(7, .int .i64 yt), (9, .int .i64 yt), (19, .int .i64 zt), (21, .int .i64 zt), (26, .int .i64 yt), (29, .int .i64 mn), (34, .int .i64 zt), (37, .int .i64 mx)] (by kernel_rfl) 152 (by kernel_rfl) rfl ?_
              repeat (first
               | (refine Chain.step (v := ?_) (a' := ?_) rfl rfl rfl ?_ ?_ ?_; rotate_left 2; (focus (intro w; go_simp; try with_reducible rfl)); focus (simp only [Act.put, pqA, pqS, pqZ]; try rfl))
               | (refine Chain.call (i := 7) (a' := ?_) _ rfl rfl rfl (fun wx hw => ?_) ?_ ?_; rotate_left 1; (focus (have g0 := HYC.out _ hw); (go_simp); (first | exact ⟨rfl, rB⟩ | exact rB)); focus (simp only [Act.put, pqA, pqS, pqZ]; try rfl))
               | (refine Chain.call (i := 9) (a' := ?_) _ rfl rfl rfl (fun wx hw => ?_) ?_ ?_; rotate_left 1; (focus (obtain ⟨g0, g1, g2, g3, g4⟩ := Blk.c5 (HZ5.out.below hw); go_simp; first | exact ⟨rfl, rB⟩ | exact rB)); focus (simp only [Act.put, pqA, pqS, pqZ]; try rfl))
               | (refine Chain.call (i := 19) (a' := ?_) _ rfl rfl rfl (fun wx hw => ?_) ?_ ?_; rotate_left 1; (focus (have g0 := HZC.out _ hw); (go_simp); (first | exact ⟨rfl, rB⟩ | exact rB)); focus (simp only [Act.put, pqA, pqS, pqZ]; try rfl))
               | (refine Chain.call (i := 21) (a' := ?_) _ rfl rfl rfl (fun wx hw => ?_) ?_ ?_; rotate_left 1; (focus (obtain ⟨g0, g1, g2, g3, g4⟩ := Blk.c5 (HZ5.out.below hw); go_simp; first | exact ⟨rfl, rB⟩ | exact rB)); focus (simp only [Act.put, pqA, pqS, pqZ]; try rfl))
               | (refine Chain.call (i := 26) (a' := ?_) _ rfl rfl rfl (fun wx hw => ?_) ?_ ?_; rotate_left 1; (focus (obtain ⟨g0, g1, g2, g3, g4⟩ := Blk.c5 (HZ5.out.below hw); go_simp; first | exact ⟨rfl, rB⟩ | exact rB)); focus (simp only [Act.put, pqA, pqS, pqZ]; try rfl))
               | (refine Chain.call (i := 29) (a' := ?_) _ rfl rfl rfl (fun wx hw => ?_) ?_ ?_; rotate_left 1; (focus (obtain ⟨g0, g1, g2, g3, g4, g5, g6, g7, g8, g9⟩ := Blk.c10 (HX5.out.below hw); go_simp; first | exact ⟨rfl, rB⟩ | exact rB)); focus (simp only [Act.put, pqA, pqS, pqZ]; try rfl))
               | (refine Chain.call (i := 34) (a' := ?_) _ rfl rfl rfl (fun wx hw => ?_) ?_ ?_; rotate_left 1; (focus (obtain ⟨g0, g1, g2, g3, g4⟩ := Blk.c5 (HZ5.out.below hw); go_simp; first | exact ⟨rfl, rB⟩ | exact rB)); focus (simp only [Act.put, pqA, pqS, pqZ]; try rfl))
               | (refine Chain.call (i := 37) (a' := ?_) _ rfl rfl rfl (fun wx hw => ?_) ?_ ?_; rotate_left 1; (focus (obtain ⟨g0, g1, g2, g3, g4, g5, g6, g7, g8, g9⟩ := Blk.c10 (HX5.out.below hw); go_simp; first | exact ⟨rfl, rB⟩ | exact rB)); focus (simp only [Act.put, pqA, pqS, pqZ]; try rfl))
               | (refine Chain.skip (a' := ?_) rfl rfl rfl ?_ ?_; rotate_left 1; focus (simp only [Act.put, pqA, pqS, pqZ]; try rfl)))
              refine Chain.end_ (fun wy hwy _ => ?_)
              have HT6 := Lib.hid (HT5.out.below hwy)
              have HES6 := Lib.hid (HES5.out.below hwy)
              have HX6 := Lib.hid (HX5.out.below hwy)
              have HDE6 := Lib.hid (HDE5.out.below hwy)
              have HB6 := Lib.hid (below_trans HB5.out hwy)
              have HN6 := Lib.hid ((HN5.out.after HBW4.out).then_below hwy)
              obtain ⟨r0, r1, r2, r3, r4⟩ := (HZ5.out.below hwy).c5
              have hnb := HT6.out.n
              go_wp2_with (at_builtin; refine wpList_append_nlit rfl (.tmp 126) (.tmp 131) 57 rfl rrow_ty rfl hnb rfl (by simp) rfl (by simp [Value.oneCell']) (by simp only [maxLen]; omega) (by omega) ?_; intro v7 w7 hn7 ha7; have HAP := Lib.hid ha7; clear ha7)
              have hlit := below_al (wy) (.cells #[.slice la ls.length lc, .slice (some ⟨sb, so, none⟩) S.length sc] 62)
              have hd7 := DTb.snoc (x := ⟨ls, S, la, lc, some ⟨sb, so, none⟩, sc⟩) (HT6.out.below hlit) ⟨HDE6.out.below hlit, .inr (HN6.out.then_below hlit)⟩ hn7 HAP.out (by decide) (by decide)
              have HD7 := Lib.hid hd7
              have hk7 := Ke.of_ap (Ts := fun U => U = 62) (HT6.out.n.buf.below hlit) HAP.out rfl
              have HES7 := Lib.hid ((HES6.out.below hlit).ke hk7 (below_trans HWZ1.out hn7.below) (by decide) (by decide))
              have HX7 := Lib.hid (hk7.blk (HX6.out.below hlit) (by decide))
              clear hn7 HAP hnb hk7 hlit hd7
              go_roundw
              case rel =>
               refine ⟨k + 1, a + nn, L2, cn + S.length, t ++ [⟨ls, S, la, lc, some ⟨sb, so, none⟩, sc⟩], by go_num, rfl, rfl, by omega, hL2a, hL2b, by omega, by rw [List.length_append]; simp only [List.length_singleton]; have := HTL.out; omega, HL2, HD7, Lib.hid ?_, HES7, HX7, Lib.hid ?_⟩
               ·rw [HAT.out, List.map_append]; rfl
               ·rw [List.map_append]
                show _ = cntR (t.map plR ++ [(ls, S)])
                rw [cntR_snoc, HCT.out]
              case measure => simp [intOf]; omega
        ·have hse1 : ((se : Int) == 0) = false := by rw [beq_eq_false_iff_ne]; omega
         have HRX := Lib.hid (HR2'.out se (by rw [HAT.out, if_pos hse0]) hse0)
         clear HCT
         go_wp2_with fail
         go_ret2
         rw [HRX.out]
         exact RetTbF.no HB5.out
      ·have hfb : (fr == (a : Int)) = false := by rw [beq_eq_false_iff_ne]; exact hfr
       have HRX := Lib.hid (HR2'.out 3 (by rw [HAT.out, if_pos (.inl hfr)]) (by decide))
       have hfb2 : (fr != (a : Int)) = true := by rw [bne_iff_ne]; exact hfr
       go_wp2_with fail
       go_ret2
       rw [HRX.out]
       exact RetTbF.no HB4.out
     ·obtain rfl : k = EN := by omega
      have hel : El.length = k := by
       have h1 := congrArg List.length HPL.out
       have h2 := HEN.out
       rw [List.length_map] at h1
       omega
      have hend := HR3'.out (t.map plR) a (by rw [HTR.out, tRows_end (by omega)])
      rw [List.length_map, HTL.out, ← HCT.out] at hend
      have HEND := Lib.hid hend
      clear hend hel
      obtain ⟨k0, k1, k2, k3, k4, k5, k6, k7, k8, k9⟩ := HX.out.c10
      by_cases ha1 : Lf = []
      rotate_left 1
      ·have hb : Lf.isEmpty = false := by cases Lf; exact absurd rfl ha1; rfl
       have hb2 : (Lf != []) = true := by rw [bne_iff_ne]; exact ha1
       have hlp : 0 < Lf.length := List.length_pos_iff.2 ha1
       have HRX := Lib.hid (HEND.out.trans (if_pos (.inl (by omega))))
       clear HEND ha1 hlp
       go_wp2_with fail
       go_ret2
       rw [HRX.out]
       exact RetTbF.no HBR.out
      ·subst ha1
       rw [List.length_nil] at hl1 hl2
       by_cases ha2 : (k : Int) = sr
       rotate_left 1
       ·have hb : ((k : Int) == sr) = false := by rw [beq_eq_false_iff_ne]; omega
        have hbb : ((k : Int) != sr) = true := by rw [bne_iff_ne]; omega
        have HRX := Lib.hid (HEND.out.trans (if_pos (.inr (.inl ha2))))
        clear HEND
        go_wp2_with fail
        go_ret2
        rw [HRX.out]
        exact RetTbF.no HBR.out
       ·subst ha2
        by_cases ha3 : (cn : Int) = sm
        rotate_left 1
        ·have hb : ((cn : Int) == sm) = false := by rw [beq_eq_false_iff_ne]; omega
         have hbb : ((cn : Int) != sm) = true := by rw [bne_iff_ne]; omega
         have HRX := Lib.hid (HEND.out.trans (if_pos (.inr (.inr ha3))))
         clear HEND
         go_wp2_with fail
         go_ret2
         rw [HRX.out]
         exact RetTbF.no HBR.out
        ·subst ha3
         have HRX := Lib.hid (HEND.out.trans (if_neg (by rintro (h | h | h); omega; exact h rfl; exact h rfl)))
         have HRT := Lib.hid ((HT.out.rtb HWZ1.out).after HB1.out)
         clear HEND
         go_wp2_with fail
         go_ret2
         rw [HRX.out]
         exact ⟨_, t, rfl, HRT.out, rfl⟩
   ·have he1 : ((ee : Int) == 0) = false := by rw [beq_eq_false_iff_ne]; omega
    have hR := HR1.out he0
    have HRR := Lib.hid hR
    clear hR he0 HR1 HR2 HR3
    go_wp2_with fail
    go_ret2
    rw [HRR.out]
    exact RetTbF.no HB1.out
end Go.Proofs.YtgabmfibfikdbaaGreatDoor
