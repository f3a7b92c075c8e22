/-
 Layer 16: the walk of (Files).Table.
-/
import Derived.Test.YtgabmfibfikdbaaGreatDoorZBokHd
import Derived.Test.YtgabmfibfikdbaaGreatDoorZLabT
import Derived.Test.YtgabmfibfikdbaaGreatDoorZLabF
import Derived.Test.YtgabmfibfikdbaaGreatDoorZLib24

namespace Go.Proofs.YtgabmfibfikdbaaGreatDoor
open Go.RowKit Go.Bar Go.Bar.Leb Go.Bar.Frm Go.Bar.Lab Go.Bar.Xor Go.Bar.Mrg Go.Bar.Met Go.Bar.Bok

set_option maxHeartbeats 32000000 in
set_option maxRecDepth 10000 in
theorem ktable_any (m : Mt) (f0 f1 : Fl) (hm : m.fs = [f0, f1]) (fv sv : Value) (C I : List UInt8) (w : World) (hW : WidthsAt w) (hF : FlsAt w fv m.fs) (hC : C.length ≤ 1048576) (hI : I.length ≤ 2097152) :
  Calls Tryz.prog 27 #[.agg #[.string (bs m.id), .int .i64 m.mn, .int .i64 m.mx, .int .i64 m.lv, .int .i64 m.sr, .int .i64 m.sm, fv, sv, .string (bs C), .string (bs I)]] w (RetTbE w (tableR m C I)) := by
 obtain ⟨id, mn, mx, lv, sr, sm, fs, ss⟩ := m
 dsimp only at hm hF ⊢
 subst hm
 obtain ⟨fA, fc, rfl, hfc, hfm⟩ := hF.shape
 obtain ⟨n0, z0, m0⟩ := f0
 obtain ⟨n1, z1, m1⟩ := f1
 have hW' := Lib.hid hW
 have hF' := Lib.hid hF
 obtain ⟨R, hR⟩ : ∃ R, R = tableR ⟨id, mn, mx, lv, sr, sm, [⟨n0, z0, m0⟩, ⟨n1, z1, m1⟩], ss⟩ C I := ⟨_, rfl⟩
 rw [← hR]
 unfold tableR holdsB at hR
 obtain ⟨h0, hh0⟩ : ∃ b, b = (z0 == (C.length : Int) && m0 == Frm.sum C) := ⟨_, rfl⟩
 obtain ⟨h1, hh1⟩ : ∃ b, b = (z1 == (I.length : Int) && m1 == Frm.sum I) := ⟨_, rfl⟩
 have hc0 : ∀ w', Calls Tryz.prog 68 #[.agg #[.string (bs n0), .int .i64 z0, .int .u32 m0], .string (bs C)] w' (RetBelow w' (.bool h0)) := fun w' => by rw [hh0]; exact holds_any n0 C z0 m0 w' (by omega)
 have hc1 : ∀ w', Calls Tryz.prog 68 #[.agg #[.string (bs n1), .int .i64 z1, .int .u32 m1], .string (bs I)] w' (RetBelow w' (.bool h1)) := fun w' => by rw [hh1]; exact holds_any n1 I z1 m1 w' (by omega)
 have hR2 : R = if (h0 && h1) = false then ([], 4) else if (entriesR I).2 ≠ 0 then ([], (entriesR I).2)
  else if (tRows mn mx C (entriesR I).1 0 []).2.2 ≠ 0 then ([], (tRows mn mx C (entriesR I).1 0 []).2.2)
  else if ((tRows mn mx C (entriesR I).1 0 []).2.1 : Int) ≠ C.length ∨ ((tRows mn mx C (entriesR I).1 0 []).1.length : Int) ≠ sr ∨ (cntR (tRows mn mx C (entriesR I).1 0 []).1 : Int) ≠ sm then ([], 3)
  else ((tRows mn mx C (entriesR I).1 0 []).1, 0) := by rw [hR, hh0, hh1]; rfl
 have HR := Lib.hid hR2
 have HC0 := Lib.hid hc0
 have HC1 := Lib.hid hc1
 clear hW hF hR hR2 hh0 hh1 hc0 hc1
 have X1 := Blk.new w #[.string (bs id), .int .i64 mn, .int .i64 mx, .int .i64 lv, .int .i64 sr, .int .i64 sm, .slice fA 2 fc, sv, .string (bs C), .string (bs I)] 64
 have b1 := below_al w (.cells #[.string (bs id), .int .i64 mn, .int .i64 mx, .int .i64 lv, .int .i64 sr, .int .i64 sm, .slice fA 2 fc, sv, .string (bs C), .string (bs I)] 64)
 go_enter Tryz.func27, Tryz.ntmps27
 go_upto_region 1 with fail
 obtain ⟨wz, hwz⟩ : ∃ wz, wz = w.alloc (.cells #[.string (bs id), .int .i64 mn, .int .i64 mx, .int .i64 lv, .int .i64 sr, .int .i64 sm, .slice fA 2 fc, sv, .string (bs C), .string (bs I)] 64) := ⟨_, rfl⟩
 obtain ⟨X, hX⟩ : ∃ X, X = w.heap.size := ⟨_, rfl⟩
 have hXw : w.heap.size ≤ X := by omega
 rw [← hwz, ← hX] at X1
 rw [← hwz] at b1 ⊢
 rw [← hX]
 have HX1 := Lib.hid X1
 have HB1 := Lib.hid b1
 have HFA := Lib.hid (hF'.out.below b1)
 obtain ⟨fb, fo, rfl, _, _, _, _⟩ := HFA.out.at_ (i := 0) rfl
 clear hwz hX X1 b1
 cases h0 with
 | false =>
  have hR3 : R = ([], 4) := by rw [HR.out]; rfl
  have HR3 := Lib.hid hR3
  clear hR3 HR HC1
  refine wp_region_known [(2, .slice (some ⟨fb, fo, none⟩) 2 fc), (4, .agg #[.string (bs n0), .int .i64 z0, .int .u32 m0]), (6, .string (bs C)), (7, .bool false)] (by kernel_rfl) 150 (by kernel_rfl) rfl ?_
  repeat (first
   | (refine Chain.step (v := ?_) (a' := ?_) rfl rfl rfl ?_ ?_ ?_; rotate_left 2; (focus (intro w; go_simp; try with_reducible rfl)); focus (simp only [Act.put, pqA, pqS, pqZ]; try rfl))
   | (refine Chain.call (i := 2) (a' := ?_) _ rfl rfl rfl (fun wx hw => ?_) ?_ ?_; rotate_left 1; (focus (obtain ⟨g0, g1, g2, g3, g4, g5, g6, g7, g8, g9⟩ := Blk.c10 (HX1.out.below hw); go_simp; first | exact ⟨rfl, rB⟩ | exact rB)); focus (simp only [Act.put, pqA, pqS, pqZ]; try rfl))
   | (refine Chain.call (i := 4) (a' := ?_) _ rfl rfl rfl (fun wx hw => ?_) ?_ ?_; rotate_left 1; (focus (obtain ⟨_, _, he, _, g0, g1, g2⟩ := (HFA.out.below hw).at_ (i := 0) rfl); (injection he with he); (injection he with e1 e2 _); (subst e1; subst e2); (dsimp only at g0 g1 g2); (simp only [Nat.zero_mul, Nat.add_zero] at g0 g1 g2); (go_simp); (try simp only [Nat.zero_mul, Nat.add_zero]); (first | exact ⟨rfl, rB⟩ | exact rB)); focus (simp only [Act.put, pqA, pqS, pqZ]; try rfl))
   | (refine Chain.call (i := 6) (a' := ?_) _ rfl rfl rfl (fun wx hw => ?_) ?_ ?_; rotate_left 1; (focus (obtain ⟨g0, g1, g2, g3, g4, g5, g6, g7, g8, g9⟩ := Blk.c10 (HX1.out.below hw); go_simp; first | exact ⟨rfl, rB⟩ | exact rB)); focus (simp only [Act.put, pqA, pqS, pqZ]; try rfl))
   | (refine Chain.call (i := 7) (a' := ?_) _ rfl rfl rfl (fun wx hw => ?_) ?_ ?_; rotate_left 1; (focus (go_simp; (with_reducible refine (HC0.out _).mono ?_); exact (fun e w' ⟨h1, h2⟩ => by subst h1; exact ⟨rfl, h2⟩))); focus (simp only [Act.put, pqA, pqS, pqZ]; try rfl))
   | (refine Chain.skip (a' := ?_) rfl rfl rfl ?_ ?_; rotate_left 1; focus (simp only [Act.put, pqA, pqS, pqZ]; try rfl)))
  refine Chain.end_ (fun wz hwz _ => ?_)
  have HBZ := Lib.hid (below_trans HB1.out hwz)
  go_wp2_with fail
  go_ret2
  rw [HR3.out]
  exact RetTbE.no HBZ.out
 | true =>
  cases h1 with
  | false =>
   have hR3 : R = ([], 4) := by rw [HR.out]; rfl
   have HR3 := Lib.hid hR3
   clear hR3 HR
   refine wp_region_known [(2, .slice (some ⟨fb, fo, none⟩) 2 fc), (4, .agg #[.string (bs n0), .int .i64 z0, .int .u32 m0]), (6, .string (bs C)), (7, .bool true), (12, .slice (some ⟨fb, fo, none⟩) 2 fc), (14, .agg #[.string (bs n1), .int .i64 z1, .int .u32 m1]), (16, .string (bs I)), (17, .bool false)] (by kernel_rfl) 150 (by kernel_rfl) rfl ?_
   repeat (first
    | (refine Chain.step (v := ?_) (a' := ?_) rfl rfl rfl ?_ ?_ ?_; rotate_left 2; (focus (intro w; go_simp; try with_reducible rfl)); focus (simp only [Act.put, pqA, pqS, pqZ]; try rfl))
    | (refine Chain.call (i := 2) (a' := ?_) _ rfl rfl rfl (fun wx hw => ?_) ?_ ?_; rotate_left 1; (focus (obtain ⟨g0, g1, g2, g3, g4, g5, g6, g7, g8, g9⟩ := Blk.c10 (HX1.out.below hw); go_simp; first | exact ⟨rfl, rB⟩ | exact rB)); focus (simp only [Act.put, pqA, pqS, pqZ]; try rfl))
    | (refine Chain.call (i := 4) (a' := ?_) _ rfl rfl rfl (fun wx hw => ?_) ?_ ?_; rotate_left 1; (focus (obtain ⟨_, _, he, _, g0, g1, g2⟩ := (HFA.out.below hw).at_ (i := 0) rfl); (injection he with he); (injection he with e1 e2 _); (subst e1; subst e2); (dsimp only at g0 g1 g2); (simp only [Nat.zero_mul, Nat.add_zero] at g0 g1 g2); (go_simp); (try simp only [Nat.zero_mul, Nat.add_zero]); (first | exact ⟨rfl, rB⟩ | exact rB)); focus (simp only [Act.put, pqA, pqS, pqZ]; try rfl))
    | (refine Chain.call (i := 6) (a' := ?_) _ rfl rfl rfl (fun wx hw => ?_) ?_ ?_; rotate_left 1; (focus (obtain ⟨g0, g1, g2, g3, g4, g5, g6, g7, g8, g9⟩ := Blk.c10 (HX1.out.below hw); go_simp; first | exact ⟨rfl, rB⟩ | exact rB)); focus (simp only [Act.put, pqA, pqS, pqZ]; try rfl))
    | (refine Chain.call (i := 7) (a' := ?_) _ rfl rfl rfl (fun wx hw => ?_) ?_ ?_; rotate_left 1; (focus (go_simp; (with_reducible refine (HC0.out _).mono ?_); exact (fun e w' ⟨h1, h2⟩ => by subst h1; exact ⟨rfl, h2⟩))); focus (simp only [Act.put, pqA, pqS, pqZ]; try rfl))
    | (refine Chain.call (i := 12) (a' := ?_) _ rfl rfl rfl (fun wx hw => ?_) ?_ ?_; rotate_left 1; (focus (obtain ⟨g0, g1, g2, g3, g4, g5, g6, g7, g8, g9⟩ := Blk.c10 (HX1.out.below hw); go_simp; first | exact ⟨rfl, rB⟩ | exact rB)); focus (simp only [Act.put, pqA, pqS, pqZ]; try rfl))
    | (refine Chain.call (i := 14) (a' := ?_) _ rfl rfl rfl (fun wx hw => ?_) ?_ ?_; rotate_left 1; (focus (obtain ⟨_, _, he, _, g0, g1, g2⟩ := (HFA.out.below hw).at_ (i := 1) rfl); (injection he with he); (injection he with e1 e2 _); (subst e1; subst e2); (dsimp only at g0 g1 g2); (simp only [Nat.one_mul, Nat.add_assoc] at g0 g1 g2); (go_simp); (try simp only [Nat.one_mul, Nat.add_assoc]); (first | exact ⟨rfl, rB⟩ | exact rB)); focus (simp only [Act.put, pqA, pqS, pqZ]; try rfl))
    | (refine Chain.call (i := 16) (a' := ?_) _ rfl rfl rfl (fun wx hw => ?_) ?_ ?_; rotate_left 1; (focus (obtain ⟨g0, g1, g2, g3, g4, g5, g6, g7, g8, g9⟩ := Blk.c10 (HX1.out.below hw); go_simp; first | exact ⟨rfl, rB⟩ | exact rB)); focus (simp only [Act.put, pqA, pqS, pqZ]; try rfl))
    | (refine Chain.call (i := 17) (a' := ?_) _ rfl rfl rfl (fun wx hw => ?_) ?_ ?_; rotate_left 1; (focus (go_simp; (with_reducible refine (HC1.out _).mono ?_); exact (fun e w' ⟨h1, h2⟩ => by subst h1; exact ⟨rfl, h2⟩))); focus (simp only [Act.put, pqA, pqS, pqZ]; try rfl))
    | (refine Chain.skip (a' := ?_) rfl rfl rfl ?_ ?_; rotate_left 1; focus (simp only [Act.put, pqA, pqS, pqZ]; try rfl)))
   refine Chain.end_ (fun wz hwz _ => ?_)
   have HBZ := Lib.hid (below_trans HB1.out hwz)
   go_wp2_with fail
   go_ret2
   rw [HR3.out]
   exact RetTbE.no HBZ.out
  | true =>
   refine wp_region_known [(2, .slice (some ⟨fb, fo, none⟩) 2 fc), (4, .agg #[.string (bs n0), .int .i64 z0, .int .u32 m0]), (6, .string (bs C)), (7, .bool true), (12, .slice (some ⟨fb, fo, none⟩) 2 fc), (14, .agg #[.string (bs n1), .int .i64 z1, .int .u32 m1]), (16, .string (bs I)), (17, .bool true)] (by kernel_rfl) 150 (by kernel_rfl) rfl ?_
   repeat (first
    | (refine Chain.step (v := ?_) (a' := ?_) rfl rfl rfl ?_ ?_ ?_; rotate_left 2; (focus (intro w; go_simp; try with_reducible rfl)); focus (simp only [Act.put, pqA, pqS, pqZ]; try rfl))
    | (refine Chain.call (i := 2) (a' := ?_) _ rfl rfl rfl (fun wx hw => ?_) ?_ ?_; rotate_left 1; (focus (obtain ⟨g0, g1, g2, g3, g4, g5, g6, g7, g8, g9⟩ := Blk.c10 (HX1.out.below hw); go_simp; first | exact ⟨rfl, rB⟩ | exact rB)); focus (simp only [Act.put, pqA, pqS, pqZ]; try rfl))
    | (refine Chain.call (i := 4) (a' := ?_) _ rfl rfl rfl (fun wx hw => ?_) ?_ ?_; rotate_left 1; (focus (obtain ⟨_, _, he, _, g0, g1, g2⟩ := (HFA.out.below hw).at_ (i := 0) rfl); (injection he with he); (injection he with e1 e2 _); (subst e1; subst e2); (dsimp only at g0 g1 g2); (simp only [Nat.zero_mul, Nat.add_zero] at g0 g1 g2); (go_simp); (try simp only [Nat.zero_mul, Nat.add_zero]); (first | exact ⟨rfl, rB⟩ | exact rB)); focus (simp only [Act.put, pqA, pqS, pqZ]; try rfl))
    | (refine Chain.call (i := 6) (a' := ?_) _ rfl rfl rfl (fun wx hw => ?_) ?_ ?_; rotate_left 1; (focus (obtain ⟨g0, g1, g2, g3, g4, g5, g6, g7, g8, g9⟩ := Blk.c10 (HX1.out.below hw); go_simp; first | exact ⟨rfl, rB⟩ | exact rB)); focus (simp only [Act.put, pqA, pqS, pqZ]; try rfl))
    | (refine Chain.call (i := 7) (a' := ?_) _ rfl rfl rfl (fun wx hw => ?_) ?_ ?_; rotate_left 1; (focus (go_simp; (with_reducible refine (HC0.out _).mono ?_); exact (fun e w' ⟨h1, h2⟩ => by subst h1; exact ⟨rfl, h2⟩))); focus (simp only [Act.put, pqA, pqS, pqZ]; try rfl))
    | (refine Chain.call (i := 12) (a' := ?_) _ rfl rfl rfl (fun wx hw => ?_) ?_ ?_; rotate_left 1; (focus (obtain ⟨g0, g1, g2, g3, g4, g5, g6, g7, g8, g9⟩ := Blk.c10 (HX1.out.below hw); go_simp; first | exact ⟨rfl, rB⟩ | exact rB)); focus (simp only [Act.put, pqA, pqS, pqZ]; try rfl))
    | (refine Chain.call (i := 14) (a' := ?_) _ rfl rfl rfl (fun wx hw => ?_) ?_ ?_; rotate_left 1; (focus (obtain ⟨_, _, he, _, g0, g1, g2⟩ := (HFA.out.below hw).at_ (i := 1) rfl); (injection he with he); (injection he with e1 e2 _); (subst e1; subst e2); (dsimp only at g0 g1 g2); (simp only [Nat.one_mul, Nat.add_assoc] at g0 g1 g2); (go_simp); (try simp only [Nat.one_mul, Nat.add_assoc]); (first | exact ⟨rfl, rB⟩ | exact rB)); focus (simp only [Act.put, pqA, pqS, pqZ]; try rfl))
    | (refine Chain.call (i := 16) (a' := ?_) _ rfl rfl rfl (fun wx hw => ?_) ?_ ?_; rotate_left 1; (focus (obtain ⟨g0, g1, g2, g3, g4, g5, g6, g7, g8, g9⟩ := Blk.c10 (HX1.out.below hw); go_simp; first | exact ⟨rfl, rB⟩ | exact rB)); focus (simp only [Act.put, pqA, pqS, pqZ]; try rfl))
    | (refine Chain.call (i := 17) (a' := ?_) _ rfl rfl rfl (fun wx hw => ?_) ?_ ?_; rotate_left 1; (focus (go_simp; (with_reducible refine (HC1.out _).mono ?_); exact (fun e w' ⟨h1, h2⟩ => by subst h1; exact ⟨rfl, h2⟩))); focus (simp only [Act.put, pqA, pqS, pqZ]; try rfl))
    | (refine Chain.skip (a' := ?_) rfl rfl rfl ?_ ?_; rotate_left 1; focus (simp only [Act.put, pqA, pqS, pqZ]; try rfl)))
   refine Chain.end_ (fun wz hwz _ => ?_)
   have HBZ := Lib.hid (below_trans HB1.out hwz)
   have HXZ := Lib.hid (HX1.out.below hwz)
   have HWZ := Lib.hid (hW'.out.below HBZ.out)
   clear HX1 HB1 HFA hwz HC0 HC1 hW' hF'
   go_upto_region 3 with fail
   obtain ⟨El, hEl⟩ : ∃ El, El = (entriesR I).1 := ⟨_, rfl⟩
   obtain ⟨ee, hee⟩ : ∃ ee, ee = (entriesR I).2 := ⟨_, rfl⟩
   have hok := entriesR_ok I
   rw [← hEl] at hok
   have hent := kentries_any I wz (by omega)
   have hR1 : ee ≠ 0 → R = ([], ee) := fun h => by
    rw [HR.out]
    simp only [Bool.and_self, Bool.true_eq_false, if_false]
    rw [← hee, if_pos h]
   have hR2 : ee = 0 → (tRows mn mx C El 0 []).2.2 ≠ 0 → R = ([], (tRows mn mx C El 0 []).2.2) := fun h h2 => by
    rw [HR.out]
    simp only [Bool.and_self, Bool.true_eq_false, if_false]
    rw [← hee, if_neg (by omega), ← hEl, if_pos h2]
   have hR3 : ee = 0 → ∀ out a, tRows mn mx C El 0 [] = (out, a, 0) → R = if (a : Int) ≠ C.length ∨ (out.length : Int) ≠ sr ∨ (cntR out : Int) ≠ sm then ([], 3) else (out, 0) := fun h out a h2 => by
    rw [HR.out]
    simp only [Bool.and_self, Bool.true_eq_false, if_false]
    rw [← hee, if_neg (by omega), ← hEl, h2]
    rfl
   have HENT := Lib.hid hent
   have HEL := Lib.hid hEl
   have HEE := Lib.hid hee
   have HOK := Lib.hid hok
   have HR1 := Lib.hid hR1
   have HR2 := Lib.hid hR2
   have HR3 := Lib.hid hR3
   clear hent hEl hee hok hR1 hR2 hR3 HR
   obtain ⟨k0, k1, k2, k3, k4, k5, k6, k7, k8, k9⟩ := HXZ.out.c10
   go_wp2_with fail
   refine HENT.out.mono ?_
   rintro e w1 ⟨v1, es, rfl, hes, hpl⟩
   rw [← HEL.out] at hpl
   rw [← HEE.out]
   obtain ⟨eA, ec, rfl, hec⟩ := hes.n.buf.shape
   have HES1 := Lib.hid hes
   have HPL := Lib.hid hpl
   have HWZ1 := Lib.hid hes.n.below
   have HX1 := Lib.hid (HXZ.out.below hes.n.below)
   have HW1 := Lib.hid (HWZ.out.below hes.n.below)
   have HB1 := Lib.hid (below_trans HBZ.out hes.n.below)
   clear HENT hes hpl HXZ HWZ k0 k1 k2 k3 k4 k5 k6 k7 k8 k9
   by_cases he0 : ee = 0
   ·subst he0
    have hr2 : ∀ e, tRows mn mx C El 0 [] = ([], 0, e) → e ≠ 0 → R = ([], e) := fun e h he => by
     have h2 := HR2.out rfl (by rw [h]; exact he)
     rw [h] at h2
     exact h2
    have HR2' := Lib.hid hr2
    have HR3' := Lib.hid (HR3.out rfl)
    obtain ⟨EN, hEN⟩ : ∃ EN, EN = es.length := ⟨_, rfl⟩
    have hENl : EN ≤ 10000 := by
     have h1 := HOK.out.2
     have h2 := congrArg List.length HPL.out
     rw [List.length_map] at h2
     omega
    rw [← hEN] at HES1 hec ⊢
    have HEN := Lib.hid hEN
    clear hEN HR1 HR2 HR3 hr2
    go_upto_region 9 with fail
    go_loopw [43, 7, 6] (fun iv av ov wr => ∃ (k a : Nat) (t : List Rv), iv = .int .i64 k ∧ av = .int .i64 a ∧ k ≤ EN ∧ a ≤ C.length ∧ t.length = k ∧ Hid (DTb wz wz w1 wr 94 128 ov t) ∧ Hid (tRows mn mx C El 0 [] = tRows mn mx C (El.drop k) a (t.map plR)) ∧
     Hid (DEs wz wz wz wr 45 128 (.slice eA EN ec) es) ∧ Hid (Blk wr X 64 #[.string (bs id), .int .i64 mn, .int .i64 mx, .int .i64 lv, .int .i64 sr, .int .i64 sm, .slice (some ⟨fb, fo, none⟩) 2 fc, sv, .string (bs C), .string (bs I)]) ∧ Hid (cntR (t.map plR) ≤ 20 * a)) (fun iv _ _ _ => EN - (intOf iv).toNat)
    case atStart => exact ⟨0, 0, [], rfl, rfl, Nat.zero_le _, Nat.zero_le _, rfl, Lib.hid (DTb.nil (Below.refl _ _) HES1.out.n.below _ _), Lib.hid rfl, HES1, HX1, Lib.hid (Nat.le_refl _)⟩
    case round =>
     obtain ⟨k, a, t, rfl, rfl, hk, ha, htl, HT, HTR, HES, HX, HCT⟩ := hrel
     clear HX1 HES1
     obtain ⟨oA, oc, rfl, hoc⟩ := HT.out.n.buf.shape
     have HTL := Lib.hid htl
     have htb : t.length ≤ 10000 := by omega
     clear htl
     have HBR := Lib.hid (below_trans HB1.out HT.out.n.below)
     have HWR := Lib.hid (HW1.out.below HT.out.n.below)
     by_cases hgo : k < EN
     ·obtain ⟨⟨ls, la, lc, fr, n, xmn, xmx⟩, hx⟩ : ∃ x, es[k]? = some x := ⟨_, List.getElem?_eq_getElem (by rw [← HEN.out]; exact hgo)⟩
      have hent := HES.out.at_ HES.out.n.below
      obtain ⟨eb, eo, rfl, _, hps, g0, g1, g2, g3, g4⟩ := hent.at_ hx
      have hEk : El[k]? = some ⟨ls, fr, n, xmn, xmx⟩ := by rw [← HPL.out, List.getElem?_map, hx]; rfl
      have hat := tRows_at (mn := mn) (mx := mx) (C := C) (a := a) (out := t.map plR) hEk
      have hn1 := (HOK.out.1 _ (List.mem_of_getElem? hEk)).n
      dsimp only at hat hn1 g0 g1 g2 g3 g4
      obtain ⟨nn, rfl⟩ : ∃ nn : Nat, n = nn := ⟨n.toNat, by omega⟩
      rw [← HTR.out] at hat
      rw [show ((nn : Int)).toNat = nn by omega] at hat
      have HAT := Lib.hid hat
      have HDE := Lib.hid (HES.out.d _ (List.mem_of_getElem? hx))
      clear hent hps hEk hat hx
      obtain ⟨wb, hwb⟩ : ∃ wb, wb = wr.alloc (.cells #[.slice la ls.length lc, .int .i64 fr, .int .i64 (nn : Int), .int .i64 xmn, .int .i64 xmx] 45) := ⟨_, rfl⟩
      have hb2 : Below wr.heap.size wr wb := by rw [hwb]; exact below_al _ _
      have HZ : Hid (Blk wb wr.heap.size 45 #[.slice la ls.length lc, .int .i64 fr, .int .i64 (nn : Int), .int .i64 xmn, .int .i64 xmx]) := Lib.hid (by rw [hwb]; exact Blk.new _ _ _)
      have HX4 := Lib.hid (HX.out.below hb2)
      have HT4 := Lib.hid (HT.out.below hb2)
      have HES4 := Lib.hid (HES.out.below hb2)
      have HDE4 := Lib.hid (HDE.out.below hb2)
      have HB4 := Lib.hid (below_trans HBR.out hb2)
      have HBW4 := Lib.hid (below_trans (below_trans HWZ1.out HT.out.n.below) hb2)
      have HW4 := Lib.hid (HWR.out.below hb2)
      clear HX HT HES HDE HBR HWR
      go_upto_region 11 with fail
      rw [← hwb]
      obtain ⟨Q, hQ⟩ : ∃ Q, Q = wr.heap.size := ⟨_, rfl⟩
      rw [← hQ] at HZ ⊢
      clear hwb hQ hb2 g0 g1 g2 g3 g4
      obtain ⟨r0, r1, r2, r3, r4⟩ := HZ.out.c5
      obtain ⟨k0, k1, k2, k3, k4, k5, k6, k7, k8, k9⟩ := HX4.out.c10
      have hwl : IntKind.i64.wrap ((C.length : Int) - (a : Int)) = (C.length : Int) - (a : Int) := by rw [IntKind.wrap_i64]; omega
      by_cases hfr : fr = (a : Int)
      ·subst hfr
       by_cases hnl : (C.length : Int) - (a : Int) < (nn : Int)
       ·have hnd : decide ((C.length : Int) - (a : Int) < (nn : Int)) = true := decide_eq_true hnl
        have HRX := Lib.hid (HR2'.out 3 (by rw [HAT.out, if_pos (.inr hnl)]) (by decide))
        go_wp2_with fail
        go_ret2
        rw [HRX.out]
        exact RetTbE.no HB4.out
       ·have hnd : decide ((C.length : Int) - (a : Int) < (nn : Int)) = false := decide_eq_false hnl
        have hw2 : IntKind.i64.wrap ((a : Int) + (nn : Int)) = ((a + nn : Nat) : Int) := by rw [IntKind.wrap_i64]; omega
        obtain ⟨D, hD⟩ : ∃ D, D = (C.drop a).take nn := ⟨_, rfl⟩
        have hDl : D.length = nn := by rw [hD, List.length_take, List.length_drop]; omega
        have hbx : (bs C).extract a (a + nn) = bs D := by rw [bs_extract, show a + nn - a = nn by omega, hD]
        rw [← hD, if_neg (by omega)] at HAT
        have hsm := smpsR_len D
        obtain ⟨S, hS⟩ : ∃ S, S = (smpsR D).1 := ⟨_, rfl⟩
        obtain ⟨se, hse⟩ : ∃ se, se = (smpsR D).2 := ⟨_, rfl⟩
        have hch := kchunks_any D wb HW4.out (by omega)
        have HCH := Lib.hid hch
        have HS := Lib.hid hS
        have HSE := Lib.hid hse
        rw [← hS, ← hse] at HAT
        rw [← hS] at hsm
        clear hD hch hS hse
        go_wp2_with fail
        refine HCH.out.mono ?_
        rintro e w5 ⟨v5, rfl, hn5⟩
        rw [← HS.out] at hn5
        rw [← HSE.out]
        obtain ⟨sA, sc, rfl, hsc⟩ := hn5.buf.shape
        have HN5 := Lib.hid hn5
        have HX5 := Lib.hid (HX4.out.below hn5.below)
        have HT5 := Lib.hid (HT4.out.below hn5.below)
        have HES5 := Lib.hid (HES4.out.below hn5.below)
        have HDE5 := Lib.hid (HDE4.out.below hn5.below)
        have HZ5 := Lib.hid (HZ.out.below hn5.below)
        have HB5 := Lib.hid (below_trans HB4.out hn5.below)
        have HW5 := Lib.hid (HW4.out.below hn5.below)
        clear HX4 HT4 HES4 HDE4 HZ HB4 HW4 hn5 HCH r0 r1 r2 r3 r4 k0 k1 k2 k3 k4 k5 k6 k7 k8 k9
        by_cases hse0 : se = 0
        ·subst hse0
         rw [if_neg (by omega)] at HAT
         obtain ⟨r0, r1, r2, r3, r4⟩ := HZ5.out.c5
         obtain ⟨k0, k1, k2, k3, k4, k5, k6, k7, k8, k9⟩ := HX5.out.c10
         rcases hq0 : S with _ | ⟨s0, sr0⟩
         ·subst hq0
          have HRX := Lib.hid (HR2'.out 3 (by rw [HAT.out, if_pos (.inl rfl)]) (by decide))
          go_wp2_with fail
          go_quiet (fail)
          go_wp2_with fail
          go_ret2
          rw [HRX.out]
          exact RetTbE.no (below_trans HB5.out (below_draws _ _))
         ·rw [← hq0]
          obtain ⟨q, hq⟩ : ∃ q, S.length = q + 1 := ⟨sr0.length, by rw [hq0]; rfl⟩
          obtain ⟨⟨yt, yv⟩, hy⟩ : ∃ y, S[0]? = some y := ⟨_, List.getElem?_eq_getElem (by omega)⟩
          obtain ⟨⟨zt, zv⟩, hz⟩ : ∃ z, S[q]? = some z := ⟨_, List.getElem?_eq_getElem (by omega)⟩
          have hfy := first_at2 hy
          have hlz := last_at2 hq hz
          have hsz : ((S.length : Int) == 0) = false := by rw [beq_eq_false_iff_ne]; omega
          have hqw : IntKind.i64.wrap ((S.length : Int) - 1) = (q : Int) := by rw [IntKind.wrap_i64]; omega
          have hqn : (q : Int) < (S.length : Int) := by omega
          have hqn0 : (0 : Int) ≤ (q : Int) := by omega
          have hsne : ¬ S = [] := by rw [hq0]; simp
          have hps0 : (0 : Int) < (S.length : Int) := by omega
          have hps1 : 0 < S.length := by omega
          obtain ⟨sb, so, e1, hsb, f0, _⟩ := SmsAt.at_ (l := S) HN5.out.slice hy
          obtain ⟨sb2, so2, e2, _, f1, _⟩ := SmsAt.at_ (l := S) HN5.out.slice hz
          subst e1
          injection e2 with e2
          injection e2 with e3 e4 _
          subst e3; subst e4
          simp only [Nat.zero_mul, Nat.add_zero] at f0
          rw [hfy, hlz] at HAT
          have HYC : Hid (∀ w', Below w5.heap.size w5 w' → w'.cell? ⟨sb, so, none⟩ = some (.int .i64 yt)) := Lib.hid fun w' hb => (Below.cell hb hsb).trans f0
          have HZC : Hid (∀ w', Below w5.heap.size w5 w' → w'.cell? ⟨sb, so + q * 2, none⟩ = some (.int .i64 zt)) := Lib.hid fun w' hb => (Below.cell hb hsb).trans f1
          have HSNE := Lib.hid hsne
          clear hfy hlz hy hz hq hq0 f0 f1 r0 r1 r2 r3 r4 k0 k1 k2 k3 k4 k5 k6 k7 k8 k9 hsne
          dsimp only at HAT
          go_upto_region 16 with fail
          by_cases hc0 : yt = xmn
          rotate_left 1
          ·have hb0 : (yt == xmn) = false := by rw [beq_eq_false_iff_ne]; exact hc0
           have hbb0 : (yt != xmn) = true := by rw [bne_iff_ne]; exact hc0
           have HRX := Lib.hid (HR2'.out 3 (by rw [HAT.out, if_pos (.inr (.inl hc0))]) (by decide))
           refine wp_region_known [(7, .int .i64 yt), (9, .int .i64 xmn)] (by kernel_rfl) 150 (by kernel_rfl) rfl ?_
           repeat (first
            | (refine Chain.step (v := ?_) (a' := ?_) rfl rfl rfl ?_ ?_ ?_; rotate_left 2; (focus (intro w; go_simp; try with_reducible rfl)); focus (simp only [Act.put, pqA, pqS, pqZ]; try rfl))
            | (refine Chain.call (i := 7) (a' := ?_) _ rfl rfl rfl (fun wx hw => ?_) ?_ ?_; rotate_left 1; (focus (have g0 := HYC.out _ hw); (go_simp); (first | exact ⟨rfl, rB⟩ | exact rB)); focus (simp only [Act.put, pqA, pqS, pqZ]; try rfl))
            | (refine Chain.call (i := 9) (a' := ?_) _ rfl rfl rfl (fun wx hw => ?_) ?_ ?_; rotate_left 1; (focus (obtain ⟨g0, g1, g2, g3, g4⟩ := Blk.c5 (HZ5.out.below hw); go_simp; first | exact ⟨rfl, rB⟩ | exact rB)); focus (simp only [Act.put, pqA, pqS, pqZ]; try rfl))
            | (refine Chain.skip (a' := ?_) rfl rfl rfl ?_ ?_; rotate_left 1; focus (simp only [Act.put, pqA, pqS, pqZ]; try rfl)))
           refine Chain.end_ (fun wy hwy _ => ?_)
           have HBY := Lib.hid (below_trans HB5.out hwy)
           go_wp2_with fail
           go_ret2
           rw [HRX.out]
           exact RetTbE.no HBY.out
          ·subst hc0
           by_cases hc1 : zt = xmx
           rotate_left 1
           ·have hb1 : (zt == xmx) = false := by rw [beq_eq_false_iff_ne]; exact hc1
            have hbb1 : (zt != xmx) = true := by rw [bne_iff_ne]; exact hc1
            have HRX := Lib.hid (HR2'.out 3 (by rw [HAT.out, if_pos (.inr (.inr (.inl hc1)))]) (by decide))
            refine wp_region_known [(7, .int .i64 yt), (9, .int .i64 yt), (19, .int .i64 zt), (21, .int .i64 xmx)] (by kernel_rfl) 150 (by kernel_rfl) rfl ?_
            repeat (first
             | (refine Chain.step (v := ?_) (a' := ?_) rfl rfl rfl ?_ ?_ ?_; rotate_left 2; (focus (intro w; go_simp; try with_reducible rfl)); focus (simp only [Act.put, pqA, pqS, pqZ]; try rfl))
             | (refine Chain.call (i := 7) (a' := ?_) _ rfl rfl rfl (fun wx hw => ?_) ?_ ?_; rotate_left 1; (focus (have g0 := HYC.out _ hw); (go_simp); (first | exact ⟨rfl, rB⟩ | exact rB)); focus (simp only [Act.put, pqA, pqS, pqZ]; try rfl))
             | (refine Chain.call (i := 9) (a' := ?_) _ rfl rfl rfl (fun wx hw => ?_) ?_ ?_; rotate_left 1; (focus (obtain ⟨g0, g1, g2, g3, g4⟩ := Blk.c5 (HZ5.out.below hw); go_simp; first | exact ⟨rfl, rB⟩ | exact rB)); focus (simp only [Act.put, pqA, pqS, pqZ]; try rfl))
             | (refine Chain.call (i := 19) (a' := ?_) _ rfl rfl rfl (fun wx hw => ?_) ?_ ?_; rotate_left 1; (focus (have g0 := HZC.out _ hw); (go_simp); (first | exact ⟨rfl, rB⟩ | exact rB)); focus (simp only [Act.put, pqA, pqS, pqZ]; try rfl))
             | (refine Chain.call (i := 21) (a' := ?_) _ rfl rfl rfl (fun wx hw => ?_) ?_ ?_; rotate_left 1; (focus (obtain ⟨g0, g1, g2, g3, g4⟩ := Blk.c5 (HZ5.out.below hw); go_simp; first | exact ⟨rfl, rB⟩ | exact rB)); focus (simp only [Act.put, pqA, pqS, pqZ]; try rfl))
             | (refine Chain.skip (a' := ?_) rfl rfl rfl ?_ ?_; rotate_left 1; focus (simp only [Act.put, pqA, pqS, pqZ]; try rfl)))
            refine Chain.end_ (fun wy hwy _ => ?_)
            have HBY := Lib.hid (below_trans HB5.out hwy)
            go_wp2_with fail
            go_ret2
            rw [HRX.out]
            exact RetTbE.no HBY.out
           ·subst hc1
            by_cases hc2 : yt < mn
            ·have hb2 : decide (yt < mn) = true := decide_eq_true hc2
             have HRX := Lib.hid (HR2'.out 3 (by rw [HAT.out, if_pos (.inr (.inr (.inr (.inl hc2))))]) (by decide))
             refine wp_region_known [(7, .int .i64 yt), (9, .int .i64 yt), (19, .int .i64 zt), (21, .int .i64 zt), (26, .int .i64 yt), (29, .int .i64 mn)] (by kernel_rfl) 150 (by kernel_rfl) rfl ?_
             repeat (first
              | (refine Chain.step (v := ?_) (a' := ?_) rfl rfl rfl ?_ ?_ ?_; rotate_left 2; (focus (intro w; go_simp; try with_reducible rfl)); focus (simp only [Act.put, pqA, pqS, pqZ]; try rfl))
              | (refine Chain.call (i := 7) (a' := ?_) _ rfl rfl rfl (fun wx hw => ?_) ?_ ?_; rotate_left 1; (focus (have g0 := HYC.out _ hw); (go_simp); (first | exact ⟨rfl, rB⟩ | exact rB)); focus (simp only [Act.put, pqA, pqS, pqZ]; try rfl))
              | (refine Chain.call (i := 9) (a' := ?_) _ rfl rfl rfl (fun wx hw => ?_) ?_ ?_; rotate_left 1; (focus (obtain ⟨g0, g1, g2, g3, g4⟩ := Blk.c5 (HZ5.out.below hw); go_simp; first | exact ⟨rfl, rB⟩ | exact rB)); focus (simp only [Act.put, pqA, pqS, pqZ]; try rfl))
              | (refine Chain.call (i := 19) (a' := ?_) _ rfl rfl rfl (fun wx hw => ?_) ?_ ?_; rotate_left 1; (focus (have g0 := HZC.out _ hw); (go_simp); (first | exact ⟨rfl, rB⟩ | exact rB)); focus (simp only [Act.put, pqA, pqS, pqZ]; try rfl))
              | (refine Chain.call (i := 21) (a' := ?_) _ rfl rfl rfl (fun wx hw => ?_) ?_ ?_; rotate_left 1; (focus (obtain ⟨g0, g1, g2, g3, g4⟩ := Blk.c5 (HZ5.out.below hw); go_simp; first | exact ⟨rfl, rB⟩ | exact rB)); focus (simp only [Act.put, pqA, pqS, pqZ]; try rfl))
              | (refine Chain.call (i := 26) (a' := ?_) _ rfl rfl rfl (fun wx hw => ?_) ?_ ?_; rotate_left 1; (focus (obtain ⟨g0, g1, g2, g3, g4⟩ := Blk.c5 (HZ5.out.below hw); go_simp; first | exact ⟨rfl, rB⟩ | exact rB)); focus (simp only [Act.put, pqA, pqS, pqZ]; try rfl))
              | (refine Chain.call (i := 29) (a' := ?_) _ rfl rfl rfl (fun wx hw => ?_) ?_ ?_; rotate_left 1; (focus (obtain ⟨g0, g1, g2, g3, g4, g5, g6, g7, g8, g9⟩ := Blk.c10 (HX5.out.below hw); go_simp; first | exact ⟨rfl, rB⟩ | exact rB)); focus (simp only [Act.put, pqA, pqS, pqZ]; try rfl))
              | (refine Chain.skip (a' := ?_) rfl rfl rfl ?_ ?_; rotate_left 1; focus (simp only [Act.put, pqA, pqS, pqZ]; try rfl)))
             refine Chain.end_ (fun wy hwy _ => ?_)
             have HBY := Lib.hid (below_trans HB5.out hwy)
             go_wp2_with fail
             go_ret2
             rw [HRX.out]
             exact RetTbE.no HBY.out
            ·have hb2 : decide (yt < mn) = false := decide_eq_false hc2
             by_cases hc3 : mx ≤ zt
             ·have hb3 : decide (mx ≤ zt) = true := decide_eq_true hc3
              have HRX := Lib.hid (HR2'.out 3 (by rw [HAT.out, if_pos (.inr (.inr (.inr (.inr hc3))))]) (by decide))
              refine wp_region_known [(7, .int .i64 yt), (9, .int .i64 yt), (19, .int .i64 zt), (21, .int .i64 zt), (26, .int .i64 yt), (29, .int .i64 mn), (34, .int .i64 zt), (37, .int .i64 mx)] (by kernel_rfl) 150 (by kernel_rfl) rfl ?_
              repeat (first
               | (refine Chain.step (v := ?_) (a' := ?_) rfl rfl rfl ?_ ?_ ?_; rotate_left 2; (focus (intro w; go_simp; try with_reducible rfl)); focus (simp only [Act.put, pqA, pqS, pqZ]; try rfl))
               | (refine Chain.call (i := 7) (a' := ?_) _ rfl rfl rfl (fun wx hw => ?_) ?_ ?_; rotate_left 1; (focus (have g0 := HYC.out _ hw); (go_simp); (first | exact ⟨rfl, rB⟩ | exact rB)); focus (simp only [Act.put, pqA, pqS, pqZ]; try rfl))
               | (refine Chain.call (i := 9) (a' := ?_) _ rfl rfl rfl (fun wx hw => ?_) ?_ ?_; rotate_left 1; (focus (obtain ⟨g0, g1, g2, g3, g4⟩ := Blk.c5 (HZ5.out.below hw); go_simp; first | exact ⟨rfl, rB⟩ | exact rB)); focus (simp only [Act.put, pqA, pqS, pqZ]; try rfl))
               | (refine Chain.call (i := 19) (a' := ?_) _ rfl rfl rfl (fun wx hw => ?_) ?_ ?_; rotate_left 1; (focus (have g0 := HZC.out _ hw); (go_simp); (first | exact ⟨rfl, rB⟩ | exact rB)); focus (simp only [Act.put, pqA, pqS, pqZ]; try rfl))
               | (refine Chain.call (i := 21) (a' := ?_) _ rfl rfl rfl (fun wx hw => ?_) ?_ ?_; rotate_left 1; (focus (obtain ⟨g0, g1, g2, g3, g4⟩ := Blk.c5 (HZ5.out.below hw); go_simp; first | exact ⟨rfl, rB⟩ | exact rB)); focus (simp only [Act.put, pqA, pqS, pqZ]; try rfl))
               | (refine Chain.call (i := 26) (a' := ?_) _ rfl rfl rfl (fun wx hw => ?_) ?_ ?_; rotate_left 1; (focus (obtain ⟨g0, g1, g2, g3, g4⟩ := Blk.c5 (HZ5.out.below hw); go_simp; first | exact ⟨rfl, rB⟩ | exact rB)); focus (simp only [Act.put, pqA, pqS, pqZ]; try rfl))
               | (refine Chain.call (i := 29) (a' := ?_) _ rfl rfl rfl (fun wx hw => ?_) ?_ ?_; rotate_left 1; (focus (obtain ⟨g0, g1, g2, g3, g4, g5, g6, g7, g8, g9⟩ := Blk.c10 (HX5.out.below hw); go_simp; first | exact ⟨rfl, rB⟩ | exact rB)); focus (simp only [Act.put, pqA, pqS, pqZ]; try rfl))
               | (refine Chain.call (i := 34) (a' := ?_) _ rfl rfl rfl (fun wx hw => ?_) ?_ ?_; rotate_left 1; (focus (obtain ⟨g0, g1, g2, g3, g4⟩ := Blk.c5 (HZ5.out.below hw); go_simp; first | exact ⟨rfl, rB⟩ | exact rB)); focus (simp only [Act.put, pqA, pqS, pqZ]; try rfl))
               | (refine Chain.call (i := 37) (a' := ?_) _ rfl rfl rfl (fun wx hw => ?_) ?_ ?_; rotate_left 1; (focus (obtain ⟨g0, g1, g2, g3, g4, g5, g6, g7, g8, g9⟩ := Blk.c10 (HX5.out.below hw); go_simp; first | exact ⟨rfl, rB⟩ | exact rB)); focus (simp only [Act.put, pqA, pqS, pqZ]; try rfl))
               | (refine Chain.skip (a' := ?_) rfl rfl rfl ?_ ?_; rotate_left 1; focus (simp only [Act.put, pqA, pqS, pqZ]; try rfl)))
              refine Chain.end_ (fun wy hwy _ => ?_)
              have HBY := Lib.hid (below_trans HB5.out hwy)
              go_wp2_with fail
              go_ret2
              rw [HRX.out]
              exact RetTbE.no HBY.out
             ·have hb3 : decide (mx ≤ zt) = false := decide_eq_false hc3
              rw [if_neg (by rintro (h | h | h | h | h); exact HSNE.out h; exact h rfl; exact h rfl; exact hc2 h; exact hc3 h)] at HAT
              have hcq : cntR (t.map plR) + S.length ≤ 20 * (a + nn) := by have := HCT.out; omega
              have HCQ := Lib.hid hcq
              clear hcq
              refine wp_region_known [(7, .int .i64 yt), (9, .int .i64 yt), (19, .int .i64 zt), (21, .int .i64 zt), (26, .int .i64 yt), (29, .int .i64 mn), (34, .int .i64 zt), (37, .int .i64 mx)] (by kernel_rfl) 150 (by kernel_rfl) rfl ?_
              repeat (first
               | (refine Chain.step (v := ?_) (a' := ?_) rfl rfl rfl ?_ ?_ ?_; rotate_left 2; (focus (intro w; go_simp; try with_reducible rfl)); focus (simp only [Act.put, pqA, pqS, pqZ]; try rfl))
               | (refine Chain.call (i := 7) (a' := ?_) _ rfl rfl rfl (fun wx hw => ?_) ?_ ?_; rotate_left 1; (focus (have g0 := HYC.out _ hw); (go_simp); (first | exact ⟨rfl, rB⟩ | exact rB)); focus (simp only [Act.put, pqA, pqS, pqZ]; try rfl))
               | (refine Chain.call (i := 9) (a' := ?_) _ rfl rfl rfl (fun wx hw => ?_) ?_ ?_; rotate_left 1; (focus (obtain ⟨g0, g1, g2, g3, g4⟩ := Blk.c5 (HZ5.out.below hw); go_simp; first | exact ⟨rfl, rB⟩ | exact rB)); focus (simp only [Act.put, pqA, pqS, pqZ]; try rfl))
               | (refine Chain.call (i := 19) (a' := ?_) _ rfl rfl rfl (fun wx hw => ?_) ?_ ?_; rotate_left 1; (focus (have g0 := HZC.out _ hw); (go_simp); (first | exact ⟨rfl, rB⟩ | exact rB)); focus (simp only [Act.put, pqA, pqS, pqZ]; try rfl))
               | (refine Chain.call (i := 21) (a' := ?_) _ rfl rfl rfl (fun wx hw => ?_) ?_ ?_; rotate_left 1; (focus (obtain ⟨g0, g1, g2, g3, g4⟩ := Blk.c5 (HZ5.out.below hw); go_simp; first | exact ⟨rfl, rB⟩ | exact rB)); focus (simp only [Act.put, pqA, pqS, pqZ]; try rfl))
               | (refine Chain.call (i := 26) (a' := ?_) _ rfl rfl rfl (fun wx hw => ?_) ?_ ?_; rotate_left 1; (focus (obtain ⟨g0, g1, g2, g3, g4⟩ := Blk.c5 (HZ5.out.below hw); go_simp; first | exact ⟨rfl, rB⟩ | exact rB)); focus (simp only [Act.put, pqA, pqS, pqZ]; try rfl))
               | (refine Chain.call (i := 29) (a' := ?_) _ rfl rfl rfl (fun wx hw => ?_) ?_ ?_; rotate_left 1; (focus (obtain ⟨g0, g1, g2, g3, g4, g5, g6, g7, g8, g9⟩ := Blk.c10 (HX5.out.below hw); go_simp; first | exact ⟨rfl, rB⟩ | exact rB)); focus (simp only [Act.put, pqA, pqS, pqZ]; try rfl))
               | (refine Chain.call (i := 34) (a' := ?_) _ rfl rfl rfl (fun wx hw => ?_) ?_ ?_; rotate_left 1; (focus (obtain ⟨g0, g1, g2, g3, g4⟩ := Blk.c5 (HZ5.out.below hw); go_simp; first | exact ⟨rfl, rB⟩ | exact rB)); focus (simp only [Act.put, pqA, pqS, pqZ]; try rfl))
               | (refine Chain.call (i := 37) (a' := ?_) _ rfl rfl rfl (fun wx hw => ?_) ?_ ?_; rotate_left 1; (focus (obtain ⟨g0, g1, g2, g3, g4, g5, g6, g7, g8, g9⟩ := Blk.c10 (HX5.out.below hw); go_simp; first | exact ⟨rfl, rB⟩ | exact rB)); focus (simp only [Act.put, pqA, pqS, pqZ]; try rfl))
               | (refine Chain.skip (a' := ?_) rfl rfl rfl ?_ ?_; rotate_left 1; focus (simp only [Act.put, pqA, pqS, pqZ]; try rfl)))
              refine Chain.end_ (fun wy hwy _ => ?_)
              have HT6 := Lib.hid (HT5.out.below hwy)
              have HES6 := Lib.hid (HES5.out.below hwy)
              have HX6 := Lib.hid (HX5.out.below hwy)
              have HDE6 := Lib.hid (HDE5.out.below hwy)
              have HB6 := Lib.hid (below_trans HB5.out hwy)
              have HN6 := Lib.hid ((HN5.out.after HBW4.out).then_below hwy)
              obtain ⟨r0, r1, r2, r3, r4⟩ := (HZ5.out.below hwy).c5
              have hnb := HT6.out.n
              go_wp2_with (at_builtin; refine wpList_append_nlit rfl (.tmp 120) (.tmp 125) 56 rfl mrow_ty rfl hnb rfl (by simp) rfl (by simp [Value.oneCell']) (by simp only [maxLen]; omega) (by omega) ?_; intro v7 w7 hn7 ha7; have HAP := Lib.hid ha7; clear ha7)
              have hlit := below_al (wy) (.cells #[.slice la ls.length lc, .slice (some ⟨sb, so, none⟩) S.length sc] 94)
              have hd7 := DTb.snoc (x := ⟨ls, S, la, lc, some ⟨sb, so, none⟩, sc⟩) (HT6.out.below hlit) ⟨HDE6.out.below hlit, .inr (HN6.out.then_below hlit)⟩ hn7 HAP.out (by decide) (by decide)
              have HD7 := Lib.hid hd7
              have hk7 := Ke.of_ap (Ts := fun U => U = 94) (HT6.out.n.buf.below hlit) HAP.out rfl
              have HES7 := Lib.hid ((HES6.out.below hlit).ke hk7 (below_trans HWZ1.out hn7.below) (by decide) (by decide))
              have HX7 := Lib.hid (hk7.blk (HX6.out.below hlit) (by decide))
              clear hn7 HAP hnb hk7 hlit hd7
              go_roundw
              case rel =>
               refine ⟨k + 1, a + nn, t ++ [⟨ls, S, la, lc, some ⟨sb, so, none⟩, sc⟩], by go_num, rfl, by omega, by omega, by rw [List.length_append]; simp only [List.length_singleton]; have := HTL.out; omega, HD7, Lib.hid ?_, HES7, HX7, Lib.hid ?_⟩
               ·rw [HAT.out, List.map_append]; rfl
               ·rw [List.map_append]
                show cntR (t.map plR ++ [(ls, S)]) ≤ _
                rw [cntR_snoc]
                exact HCQ.out
              case measure => simp [intOf]; omega
        ·have hse1 : ((se : Int) == 0) = false := by rw [beq_eq_false_iff_ne]; omega
         have HRX := Lib.hid (HR2'.out se (by rw [HAT.out, if_pos hse0]) hse0)
         clear HCT
         go_wp2_with fail
         go_ret2
         rw [HRX.out]
         exact RetTbE.no HB5.out
      ·have hfb : (fr == (a : Int)) = false := by rw [beq_eq_false_iff_ne]; exact hfr
       have HRX := Lib.hid (HR2'.out 3 (by rw [HAT.out, if_pos (.inl hfr)]) (by decide))
       have hfb2 : (fr != (a : Int)) = true := by rw [bne_iff_ne]; exact hfr
       go_wp2_with fail
       go_ret2
       rw [HRX.out]
       exact RetTbE.no HB4.out
     ·obtain rfl : k = EN := by omega
      have htl2 : El.length ≤ k := by
       have h1 := congrArg List.length HPL.out
       have h2 := HEN.out
       rw [List.length_map] at h1
       omega
      have hend := HR3'.out (t.map plR) a (by rw [HTR.out, tRows_end htl2])
      rw [List.length_map] at hend
      obtain ⟨CT, hCT⟩ : ∃ CT, CT = cntR (t.map plR) := ⟨_, rfl⟩
      rw [← hCT] at hend
      have hct : CT ≤ 1000000000 := by have := HCT.out; omega
      have HTB := Lib.hid ((HT.out.rtb HWZ1.out).tb)
      have hcnt : ∀ w', Below wr.heap.size wr w' → Calls Tryz.prog 61 #[.slice oA t.length oc] w' (RetBelow w' (.int .i64 (CT : Nat))) := fun w' hb => by
       rw [hCT]
       exact mcount_any _ t w' (HTB.out.below hb) (by rw [← hCT]; exact hct)
      have HCNT := Lib.hid hcnt
      have HEND := Lib.hid hend
      clear hcnt hend htl2 hCT hct HCT
      rw [← HTL.out]
      go_upto_region 21 with fail
      by_cases ha1 : a = C.length
      rotate_left 1
      ·have hb : ((a : Int) == (C.length : Int)) = false := by rw [beq_eq_false_iff_ne]; omega
       have hbb : ((a : Int) != (C.length : Int)) = true := by rw [bne_iff_ne]; omega
       have HRX := Lib.hid (HEND.out.trans (if_pos (.inl (by omega))))
       clear HEND HCNT
       refine wp_region_known [(2, .string (bs C))] (by kernel_rfl) 150 (by kernel_rfl) rfl ?_
       repeat (first
        | (refine Chain.step (v := ?_) (a' := ?_) rfl rfl rfl ?_ ?_ ?_; rotate_left 2; (focus (intro w; go_simp; try with_reducible rfl)); focus (simp only [Act.put, pqA, pqS, pqZ]; try rfl))
        | (refine Chain.call (i := 2) (a' := ?_) _ rfl rfl rfl (fun wx hw => ?_) ?_ ?_; rotate_left 1; (focus (obtain ⟨g0, g1, g2, g3, g4, g5, g6, g7, g8, g9⟩ := Blk.c10 (HX.out.below hw); go_simp; first | exact ⟨rfl, rB⟩ | exact rB)); focus (simp only [Act.put, pqA, pqS, pqZ]; try rfl))
        | (refine Chain.skip (a' := ?_) rfl rfl rfl ?_ ?_; rotate_left 1; focus (simp only [Act.put, pqA, pqS, pqZ]; try rfl)))
       refine Chain.end_ (fun wy hwy _ => ?_)
       have HBY := Lib.hid (below_trans HBR.out hwy)
       go_wp2_with fail
       go_ret2
       rw [HRX.out]
       exact RetTbE.no HBY.out
      ·subst ha1
       obtain ⟨tn, htn⟩ : ∃ tn, tn = t.length := ⟨_, rfl⟩
       rw [← htn] at HEND HCNT HTB ⊢
       have HTNE := Lib.hid htn
       clear htn
       by_cases ha2 : (tn : Int) = sr
       rotate_left 1
       ·have hb : ((tn : Int) == sr) = false := by rw [beq_eq_false_iff_ne]; omega
        have hbb : ((tn : Int) != sr) = true := by rw [bne_iff_ne]; omega
        have HRX := Lib.hid (HEND.out.trans (if_pos (.inr (.inl ha2))))
        clear HEND HCNT
        refine wp_region_known [(2, .string (bs C)), (10, .int .i64 sr)] (by kernel_rfl) 150 (by kernel_rfl) rfl ?_
        repeat (first
         | (refine Chain.step (v := ?_) (a' := ?_) rfl rfl rfl ?_ ?_ ?_; rotate_left 2; (focus (intro w; go_simp; try with_reducible rfl)); focus (simp only [Act.put, pqA, pqS, pqZ]; try rfl))
         | (refine Chain.call (i := 2) (a' := ?_) _ rfl rfl rfl (fun wx hw => ?_) ?_ ?_; rotate_left 1; (focus (obtain ⟨g0, g1, g2, g3, g4, g5, g6, g7, g8, g9⟩ := Blk.c10 (HX.out.below hw); go_simp; first | exact ⟨rfl, rB⟩ | exact rB)); focus (simp only [Act.put, pqA, pqS, pqZ]; try rfl))
         | (refine Chain.call (i := 10) (a' := ?_) _ rfl rfl rfl (fun wx hw => ?_) ?_ ?_; rotate_left 1; (focus (obtain ⟨g0, g1, g2, g3, g4, g5, g6, g7, g8, g9⟩ := Blk.c10 (HX.out.below hw); go_simp; first | exact ⟨rfl, rB⟩ | exact rB)); focus (simp only [Act.put, pqA, pqS, pqZ]; try rfl))
         | (refine Chain.skip (a' := ?_) rfl rfl rfl ?_ ?_; rotate_left 1; focus (simp only [Act.put, pqA, pqS, pqZ]; try rfl)))
        refine Chain.end_ (fun wy hwy _ => ?_)
        have HBY := Lib.hid (below_trans HBR.out hwy)
        go_wp2_with fail
        go_ret2
        rw [HRX.out]
        exact RetTbE.no HBY.out
       ·subst ha2
        by_cases ha3 : (CT : Int) = sm
        rotate_left 1
        ·have hb : ((CT : Int) == sm) = false := by rw [beq_eq_false_iff_ne]; omega
         have hbb : ((CT : Int) != sm) = true := by rw [bne_iff_ne]; omega
         have HRX := Lib.hid (HEND.out.trans (if_pos (.inr (.inr ha3))))
         clear HEND
         refine wp_region_known [(2, .string (bs C)), (10, .int .i64 (tn : Nat)), (15, .int .i64 (CT : Nat)), (18, .int .i64 sm)] (by kernel_rfl) 150 (by kernel_rfl) rfl ?_
         repeat (first
          | (refine Chain.step (v := ?_) (a' := ?_) rfl rfl rfl ?_ ?_ ?_; rotate_left 2; (focus (intro w; go_simp; try with_reducible rfl)); focus (simp only [Act.put, pqA, pqS, pqZ]; try rfl))
          | (refine Chain.call (i := 2) (a' := ?_) _ rfl rfl rfl (fun wx hw => ?_) ?_ ?_; rotate_left 1; (focus (obtain ⟨g0, g1, g2, g3, g4, g5, g6, g7, g8, g9⟩ := Blk.c10 (HX.out.below hw); go_simp; first | exact ⟨rfl, rB⟩ | exact rB)); focus (simp only [Act.put, pqA, pqS, pqZ]; try rfl))
          | (refine Chain.call (i := 10) (a' := ?_) _ rfl rfl rfl (fun wx hw => ?_) ?_ ?_; rotate_left 1; (focus (obtain ⟨g0, g1, g2, g3, g4, g5, g6, g7, g8, g9⟩ := Blk.c10 (HX.out.below hw); go_simp; first | exact ⟨rfl, rB⟩ | exact rB)); focus (simp only [Act.put, pqA, pqS, pqZ]; try rfl))
          | (refine Chain.call (i := 15) (a' := ?_) _ rfl rfl rfl (fun wx hw => ?_) ?_ ?_; rotate_left 1; (focus (go_simp; (with_reducible refine (HCNT.out _ hw).mono ?_); exact (fun e w' ⟨h1, h2⟩ => by subst h1; exact ⟨rfl, h2⟩))); focus (simp only [Act.put, pqA, pqS, pqZ]; try rfl))
          | (refine Chain.call (i := 18) (a' := ?_) _ rfl rfl rfl (fun wx hw => ?_) ?_ ?_; rotate_left 1; (focus (obtain ⟨g0, g1, g2, g3, g4, g5, g6, g7, g8, g9⟩ := Blk.c10 (HX.out.below hw); go_simp; first | exact ⟨rfl, rB⟩ | exact rB)); focus (simp only [Act.put, pqA, pqS, pqZ]; try rfl))
          | (refine Chain.skip (a' := ?_) rfl rfl rfl ?_ ?_; rotate_left 1; focus (simp only [Act.put, pqA, pqS, pqZ]; try rfl)))
         refine Chain.end_ (fun wy hwy _ => ?_)
         have HBY := Lib.hid (below_trans HBR.out hwy)
         go_wp2_with fail
         go_ret2
         rw [HRX.out]
         exact RetTbE.no HBY.out
        ·subst ha3
         have HRX := Lib.hid (HEND.out.trans (if_neg (by rintro (h | h | h) <;> exact h rfl)))
         clear HEND
         refine wp_region_known [(2, .string (bs C)), (10, .int .i64 (tn : Nat)), (15, .int .i64 (CT : Nat)), (18, .int .i64 (CT : Nat))] (by kernel_rfl) 150 (by kernel_rfl) rfl ?_
         repeat (first
          | (refine Chain.step (v := ?_) (a' := ?_) rfl rfl rfl ?_ ?_ ?_; rotate_left 2; (focus (intro w; go_simp; try with_reducible rfl)); focus (simp only [Act.put, pqA, pqS, pqZ]; try rfl))
          | (refine Chain.call (i := 2) (a' := ?_) _ rfl rfl rfl (fun wx hw => ?_) ?_ ?_; rotate_left 1; (focus (obtain ⟨g0, g1, g2, g3, g4, g5, g6, g7, g8, g9⟩ := Blk.c10 (HX.out.below hw); go_simp; first | exact ⟨rfl, rB⟩ | exact rB)); focus (simp only [Act.put, pqA, pqS, pqZ]; try rfl))
          | (refine Chain.call (i := 10) (a' := ?_) _ rfl rfl rfl (fun wx hw => ?_) ?_ ?_; rotate_left 1; (focus (obtain ⟨g0, g1, g2, g3, g4, g5, g6, g7, g8, g9⟩ := Blk.c10 (HX.out.below hw); go_simp; first | exact ⟨rfl, rB⟩ | exact rB)); focus (simp only [Act.put, pqA, pqS, pqZ]; try rfl))
          | (refine Chain.call (i := 15) (a' := ?_) _ rfl rfl rfl (fun wx hw => ?_) ?_ ?_; rotate_left 1; (focus (go_simp; (with_reducible refine (HCNT.out _ hw).mono ?_); exact (fun e w' ⟨h1, h2⟩ => by subst h1; exact ⟨rfl, h2⟩))); focus (simp only [Act.put, pqA, pqS, pqZ]; try rfl))
          | (refine Chain.call (i := 18) (a' := ?_) _ rfl rfl rfl (fun wx hw => ?_) ?_ ?_; rotate_left 1; (focus (obtain ⟨g0, g1, g2, g3, g4, g5, g6, g7, g8, g9⟩ := Blk.c10 (HX.out.below hw); go_simp; first | exact ⟨rfl, rB⟩ | exact rB)); focus (simp only [Act.put, pqA, pqS, pqZ]; try rfl))
          | (refine Chain.skip (a' := ?_) rfl rfl rfl ?_ ?_; rotate_left 1; focus (simp only [Act.put, pqA, pqS, pqZ]; try rfl)))
         refine Chain.end_ (fun wy hwy _ => ?_)
         have HRT := Lib.hid (((HT.out.rtb HWZ1.out).after HB1.out).below hwy)
         go_wp2_with fail
         go_ret2
         rw [HRX.out]
         exact ⟨_, t, rfl, by rw [HTNE.out]; exact HRT.out, rfl⟩
   ·have he1 : ((ee : Int) == 0) = false := by rw [beq_eq_false_iff_ne]; omega
    have hR := HR1.out he0
    have HRR := Lib.hid hR
    clear hR he0 HR1 HR2 HR3
    go_wp2_with fail
    go_ret2
    rw [HRR.out]
    exact RetTbE.no HB1.out
end Go.Proofs.YtgabmfibfikdbaaGreatDoor

/-
 Layer 16: Table where it succeeds, from the walk of it all.
-/
namespace Go.Proofs.YtgabmfibfikdbaaGreatDoor
open Go.RowKit Go.Bar Go.Bar.Leb Go.Bar.Frm Go.Bar.Lab Go.Bar.Xor Go.Bar.Mrg Go.Bar.Met Go.Bar.Bok

theorem ktable_ok (m : Mt) (f0 f1 : Fl) (hm : m.fs = [f0, f1]) (fv sv : Value) (C I : List UInt8) (w : World) (hW : WidthsAt w) (hF : FlsAt w fv m.fs) (hC : C.length ≤ 1048576) (hI : I.length ≤ 2097152) (_ : (tableR m C I).2 = 0) :
  Calls Tryz.prog 27 #[.agg #[.string (bs m.id), .int .i64 m.mn, .int .i64 m.mx, .int .i64 m.lv, .int .i64 m.sr, .int .i64 m.sm, fv, sv, .string (bs C), .string (bs I)]] w (RetTbE w (tableR m C I)) := ktable_any m f0 f1 hm fv sv C I w hW hF hC hI

end Go.Proofs.YtgabmfibfikdbaaGreatDoor

/-
 Layer 14: the walk of the reference's Add.
-/
namespace Go.Proofs.YtgabmfibfikdbaaGreatDoor
open Go.RowKit Go.Bar Go.Bar.Leb Go.Bar.Lab Go.Bar.Xor Go.Bar.Mrg

theorem nbuf_lit {W w : World} (hb : Below W.heap.size W w) (e : TypeId) (sz k : Nat) (news : List Value) (hl : news.length = k * sz) (hk : k ≤ maxLen) : NBuf W (w.alloc (.cells news.toArray e)) e sz (.slice (some ⟨w.heap.size, 0, none⟩) k k) k news :=
 ⟨Buf.lit w e sz k news hl hk, hb.alloc hb.size _, fun q hq => by simp [Value.ownBlock] at hq; subst hq; exact hb.size⟩
section
variable {B W0 W w : World} {T Tp : TypeId} {v : Value} {t : List Rv} {X : Nat} {cur : Array Value}
end
def RetDt (B W0 w : World) (T Tp : TypeId) (R : List Row) (e : Ending) (w' : World) : Prop := ∃ v t, e = .returned v ∧ DTb B W0 w w' T Tp v t ∧ t.map plR = R
section
variable {L : List Pr} {s : Sm} {r : Row} {R : List Row}
end

end Go.Proofs.YtgabmfibfikdbaaGreatDoor

/-
 Layer 14: the laws' own functions: Labels, Told, Rows, Table.
-/
namespace Go.Proofs.YtgabmfibfikdbaaGreatDoor
open Go.RowKit Go.Bar Go.Bar.Leb Go.Bar.Lab Go.Bar.Xor Go.Bar.Mrg

def lab5 (n : Nat) : List Pr := match n % 5 with
 | 0 => [([97], [49])]
 | 1 => [([97], [49]), ([98], [50])]
 | 2 => [([97], [50])]
 | 3 => [([98], [49])]
 | _ => [([106, 111, 98], [120])]
def lab5t (j : Nat) : List UInt8 := match j with
 | 0 => [97, 61, 49]
 | 1 => [97, 61, 49, 44, 98, 61, 50]
 | 2 => [97, 61, 50]
 | 3 => [98, 61, 49]
 | _ => [106, 111, 98, 61, 120]
theorem lab5_parse (n : Nat) : parse (lab5t (n % 5)) = (lab5 n, 0) := by
 have h : n % 5 < 5 := Nat.mod_lt _ (by decide)
 unfold lab5
 generalize n % 5 = j at h
 rcases j with _ | _ | _ | _ | _ | j
 ·decide
 ·decide
 ·decide
 ·decide
 ·decide
 ·omega
def RetN14 (w : World) (T : TypeId) (l : List Pr) (e : Ending) (w' : World) : Prop := ∃ v, e = .returned v ∧ NBuf w w' T 2 v l.length (pcs l)

set_option maxHeartbeats 4000000 in
set_option maxRecDepth 10000 in
theorem labels_any (n : Nat) (w : World) : Calls Tryz.prog 56 #[.int .u8 (n : Nat)] w (RetN14 w 128 (lab5 n)) := by
 have hp := fun w => parse_any6 (lab5t (n % 5)) w (by
  have h : n % 5 < 5 := Nat.mod_lt _ (by decide)
  generalize n % 5 = j at h
  rcases j with _ | _ | _ | _ | _ | j <;> simp [lab5t])
 unfold RetPs at hp
 rw [lab5_parse] at hp
 obtain ⟨L, hL⟩ : ∃ L, L = lab5 n := ⟨_, rfl⟩
 rw [← hL] at hp ⊢
 clear hL
 have hm : (n : Int) % 5 = ((n % 5 : Nat) : Int) := by omega
 have h : n % 5 < 5 := Nat.mod_lt _ (by decide)
 generalize n % 5 = j at h hp hm
 have HP := Lib.hid hp
 clear hp
 rcases j with _ | _ | _ | _ | _ | j
 case succ.succ.succ.succ.succ => omega
 all_goals
  have hm2 : (n : Int) % 5 = _ := hm
  go_enter Tryz.func56, Tryz.ntmps56
  go_wp2_with fail
  refine (HP.out _).mono ?_
  rintro e w1 ⟨v, rfl, hn⟩
  have HN := Lib.hid hn
  clear hn
  go_wp2_with fail
  go_ret
  exact ⟨v, rfl, HN.out.after (below_alloc1 _ _)⟩

set_option maxHeartbeats 8000000 in
set_option maxRecDepth 10000 in
theorem told14_any (v : Value) (t : List Rv) (w : World) (h : TbAt w v t) (hl : t.length ≤ 1000000) (hp : ∀ x ∈ t, x.ls.length ≤ 1000000) :
  Calls Tryz.prog 29 #[v] w (RetDt w w w 62 146 (t.map plR)) := by
 obtain ⟨A, c, rfl, hlc, hcm⟩ := h.shape
 unfold maxLen at hcm
 have HT := Lib.hid h
 have HP := Lib.hid hp
 have HN0 : Hid (DTb w w w (w.alloc (.cells #[] 62)) 62 146 (.slice (some ⟨w.heap.size, 0, none⟩) 0 0) []) := Lib.hid ⟨NBuf.lit0 (Below.refl w.heap.size w) 62 2, Below.refl _ _, fun x hx => by cases hx⟩
 clear h hp
 go_enter Tryz.func29, Tryz.ntmps29
 go_wp2_with fail
 go_loopw [3, 9] (fun d i wr => ∃ (k : Nat) (O : List Rv), k ≤ t.length ∧ i = .int .i64 k ∧ O.length = k ∧ Hid (DTb w w w wr 62 146 d O) ∧ Hid (O.map plR = (t.map plR).take k)) (fun _ i _ => t.length - (intOf i).toNat)
 case atStart => exact ⟨0, [], Nat.zero_le _, rfl, rfl, HN0, Lib.hid rfl⟩
 case round =>
  obtain ⟨k, O, hk, rfl, hO, HNB, HRR⟩ := hrel
  obtain ⟨fA, fc, rfl, hfc⟩ := HNB.out.n.buf.shape
  have hbw := HNB.out.n.below
  clear HN0
  by_cases hgo : k < t.length
  ·obtain ⟨x, hx⟩ : ∃ x, t[k]? = some x := ⟨_, List.getElem?_eq_getElem hgo⟩
   obtain ⟨xb, xo, rfl, x0, x1, _⟩ := (HT.out.below hbw).at_ hx
   have hrr : O.map plR ++ [plR x] = (t.map plR).take (k + 1) := by
    rw [List.take_add_one, List.getElem?_map, hx, HRR.out]; rfl
   have HR2 := Lib.hid hrr
   have HRX := Lib.hid (HT.out.2 x (List.mem_of_getElem? hx))
   obtain ⟨n, hn⟩ : ∃ n, n = O.length := ⟨_, rfl⟩
   have HNK := Lib.hid (hn.trans hO)
   have hnb : n ≤ 1000000 := by have := HNK.out; omega
   have HNN := Lib.hid hn
   have hxl := HP.out x (List.mem_of_getElem? hx)
   have htl := fun w' (hb : Below w.heap.size w w') => told_any6 (.slice x.la x.ls.length x.lc) x.ls w' (HRX.out.1.below hb) hxl
   have HTL := Lib.hid htl
   clear hrr hx HRR htl hO hn
   obtain ⟨wx, hwx⟩ : ∃ wx, wx = wr.alloc (.cells #[.slice x.la x.ls.length x.lc, .slice x.sa x.ss.length x.sc] 94) := ⟨_, rfl⟩
   have hbx : Below wr.heap.size wr wx := by rw [hwx]; exact below_alloc1 _ _
   have HXB : Hid (Blk wx wr.heap.size 94 #[.slice x.la x.ls.length x.lc, .slice x.sa x.ss.length x.sc]) := Lib.hid (by rw [hwx]; exact Blk.new _ _ _)
   have HNX := Lib.hid (HNB.out.below hbx)
   have hbWx := below_trans hbw hbx
   go_upto_region 5 with fail
   rw [← hwx]
   obtain ⟨X, hX⟩ : ∃ X, X = wr.heap.size := ⟨_, rfl⟩
   rw [← hX] at HXB ⊢
   rw [← HNN.out] at HNX ⊢
   clear hwx hX HNB hbx
   obtain ⟨k0, k1⟩ := HXB.out.c2
   go_region_law (first
    | (((rw [if_pos (by rfl)]); go_simp; go_at_call 54; refine (HTL.out _ hbWx.drew).mono ?_; rintro e w6 ⟨v6, rfl, n6⟩; obtain ⟨A6, c6, rfl, hc6⟩ := n6.buf.shape; have b6 : Below wx.heap.size wx w6 := below_trans (Below.refl _ _).drew n6.below; obtain ⟨q0, q1⟩ := (HXB.out.below b6).c2; dsimp only))
    | ((refine step_append_buf rfl (.tmp 13) (.tmp 20) 57 rfl rrow_ty rfl ((HNX.out.n.buf.below b6).alloc _) rfl ((Buf.lit w6 62 2 1 [.slice A6 x.ls.length c6, .slice x.sa x.ss.length x.sc] rfl (by decide)).src rrow_ty.slice (by simp [Value.oneCell'])) (by simp only [maxLen]; have := HNN.out; omega) (by have := HNN.out; omega) ?_; intro v2 w2 hb2 ha2 hg2; have HB8 := Lib.hid (And.intro hb2 (And.intro ha2 hg2)); clear hb2 ha2 hg2)))
   all_goals
    have hdx := HNX.out.below (below_trans b6 (below_alloc1 _ (.cells #[.slice A6 x.ls.length c6, .slice x.sa x.ss.length x.sc] 62)))
    have hd := DTb.snoc (x := ⟨x.ls, x.ss, A6, c6, x.sa, x.sc⟩) hdx ⟨.inr ((n6.after hbWx.drew).alloc _), .inl HRX.out.2⟩ (hdx.n.step HB8.out.1 HB8.out.2.1 HB8.out.2.2) HB8.out.2.1 (by decide) (by decide)
    have HD := Lib.hid hd
    clear hd hdx n6 b6 q0 q1 k0 k1
    go_wp2_with fail
    go_roundw
    case rel => exact ⟨k + 1, _, by omega, by go_num, by rw [List.length_append, ← HNN.out, HNK.out]; rfl, HD, Lib.hid (by rw [List.map_append, ← HR2.out]; rfl)⟩
    case measure => simp [intOf]; omega
  ·obtain rfl : k = t.length := by omega
   have hrr := HRR.out
   rw [List.take_of_length_le (by rw [List.length_map]; exact Nat.le_refl _)] at hrr
   have HR2 := Lib.hid hrr
   clear hrr HRR
   go_wp2_with fail
   go_ret
   exact ⟨_, O, rfl, HNB.out, HR2.out⟩

end Go.Proofs.YtgabmfibfikdbaaGreatDoor

/-
 Layer 14: the laws' samples in memory; the walk of Table.
-/
namespace Go.Bar.Mrg
open Go.RowKit Go.Bar Go.Bar.Xor Go.Bar.Lab

structure On3 where
 nm : Nat
 t : Int
 v : Nat
def enc3 (x : On3) : List Value := [.int .u8 (x.nm : Nat), .int .i64 x.t, .int .u64 (x.v : Nat)]
theorem enc3_len (x : On3) : (enc3 x).length = 3 := rfl
def ocs (l : List On3) : List Value := l.flatMap enc3
def O3At (w : World) (v : Value) (l : List On3) : Prop := SlAt w 3 v l.length (ocs l)
theorem O3At.below {w w' : World} {v : Value} {l : List On3} (h : O3At w v l) (hb : Below w.heap.size w w') : O3At w' v l := SlAt.below h hb
theorem O3At.shape {w : World} {v : Value} {l : List On3} (h : O3At w v l) : ∃ A c, v = .slice A l.length c ∧ l.length ≤ c ∧ c ≤ maxLen := SlAt.shape h
theorem O3At.at_ {w : World} {A : Option Addr} {n c i : Nat} {l : List On3} {x : On3} (h : O3At w (.slice A n c) l) (hi : l[i]? = some x) : ∃ b o, A = some ⟨b, o, none⟩ ∧ w.cell? ⟨b, o + i * 3, none⟩ = some (.int .u8 (x.nm : Nat)) ∧ w.cell? ⟨b, o + i * 3 + 1, none⟩ = some (.int .i64 x.t) ∧ w.cell? ⟨b, o + i * 3 + 2, none⟩ = some (.int .u64 (x.v : Nat)) := by
 have hlt : i < l.length := (List.getElem?_eq_some_iff.1 hi).1
 obtain ⟨A', c', he, _⟩ := SlAt.shape h
 injection he with e1 e2 e3
 subst e1; subst e2; subst e3
 obtain ⟨b, o, rfl, hb, hc⟩ := SlAt.cells h (by omega)
 have g := flat_get enc3 3 enc3_len l i x hi
 have g0 := hc _ _ (g 0 (by omega))
 have g1 := hc _ _ (g 1 (by omega))
 have g2 := hc _ _ (g 2 (by omega))
 exact ⟨b, o, rfl, g0, (by rw [Nat.add_assoc]; exact g1), (by rw [Nat.add_assoc]; exact g2)⟩
end Go.Bar.Mrg
namespace Go.Proofs.YtgabmfibfikdbaaGreatDoor
open Go.RowKit Go.Bar Go.Bar.Leb Go.Bar.Lab Go.Bar.Xor Go.Bar.Mrg

end Go.Proofs.YtgabmfibfikdbaaGreatDoor
