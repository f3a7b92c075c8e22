/-
  Tables that agree come to the same in any order, and in any brackets: of any samples. No condition.
-/
import Derived.Test.YtfimalbdlepfnaaDoorZMrgAF
import Derived.Test.YtfimalbdlepfnaaDoorTie
import Derived.Test.YtfimalbdlepfnaaDoorCards

namespace Go.Bar.Mrg
open Go.RowKit Go.Bar Go.Bar.Xor Go.Bar.Lab

def joinT (ls : List (List Row)) : List Row := addAll [] (ls.flatMap ptsOf)
theorem join_spec {ls : List (List Row)} (hl : ∀ x ∈ ls, Tb x) : Tb (joinT ls) ∧ ∀ L t, val (joinT ls) L t = ls.findSome? (fun x => val x L t) := by
  obtain ⟨h3, h4⟩ := addAll_spec (ls.flatMap ptsOf) Tb.nil
  refine ⟨h3, fun L t => ?_⟩
  unfold joinT
  rw [h4, val_nil, Option.none_or]
  clear h3 h4
  induction ls with
  | nil => rfl
  | cons x ls ih =>
    rw [List.flatMap_cons, ptv_append, ptv_pts (hl x (List.mem_cons_self ..)).rls, List.findSome?_cons, ih fun y hy => hl y (List.mem_cons_of_mem _ hy)]
    cases val x L t <;> rfl
theorem agr_join {F : List Pr → Int → Sm} {ls : List (List Row)} (hl : ∀ x ∈ ls, Tb x) (ha : ∀ R ∈ ls, Agr F R) : Tb (joinT ls) ∧ Agr F (joinT ls) ∧ ∀ L t, val (joinT ls) L t = if (∃ R ∈ ls, val R L t ≠ none) then some (F L t) else none := by
  obtain ⟨h1, h2⟩ := join_spec hl
  refine ⟨h1, fun L t x hx => ?_, fun L t => by rw [h2, agr_find ha]⟩
  rw [h2, agr_find ha] at hx
  split at hx
  · injection hx with hx; exact hx.symm
  · cases hx
theorem join_orders {F : List Pr → Int → Sm} {x y z : List Row} (hx : Tb x) (hy : Tb y) (hz : Tb z) (ax : Agr F x) (ay : Agr F y) (az : Agr F z) : joinT [x, y, z] = joinT [z, x, y] ∧ joinT [x, y, z] = joinT [joinT [x, y], z] ∧ joinT [x, y, z] = joinT [x, joinT [y, z]] := by
  obtain ⟨a1, _, a3⟩ := agr_join (all3 hx hy hz) (all3 ax ay az)
  obtain ⟨b1, _, b3⟩ := agr_join (all3 hz hx hy) (all3 az ax ay)
  obtain ⟨c1, c2, c3⟩ := agr_join (all2 hx hy) (all2 ax ay)
  obtain ⟨d1, _, d3⟩ := agr_join (all2 c1 hz) (all2 c2 az)
  obtain ⟨e1, e2, e3⟩ := agr_join (all2 hy hz) (all2 ay az)
  obtain ⟨f1, _, f3⟩ := agr_join (all2 hx e1) (all2 ax e2)
  refine ⟨tb_ext a1 b1 fun L t => ?_, tb_ext a1 d1 fun L t => ?_, tb_ext a1 f1 fun L t => ?_⟩
  · rw [a3, b3]
    congr 1
    simp only [List.mem_cons, List.not_mem_nil, or_false, exists_eq_or_imp, exists_eq_left, eq_iff_iff]
    constructor
    · rintro (h | h | h)
      · exact .inr (.inl h)
      · exact .inr (.inr h)
      · exact .inl h
    · rintro (h | h | h)
      · exact .inr (.inr h)
      · exact .inl h
      · exact .inr (.inl h)
  · rw [a3, d3]
    congr 1
    simp only [List.mem_cons, List.not_mem_nil, or_false, exists_eq_or_imp, exists_eq_left, eq_iff_iff]
    rw [c3, some_iff]
    simp only [List.mem_cons, List.not_mem_nil, or_false, exists_eq_or_imp, exists_eq_left, or_assoc]
  · rw [a3, f3]
    congr 1
    simp only [List.mem_cons, List.not_mem_nil, or_false, exists_eq_or_imp, exists_eq_left, eq_iff_iff]
    rw [e3, some_iff]
    simp only [List.mem_cons, List.not_mem_nil, or_false, exists_eq_or_imp, exists_eq_left]
end Go.Bar.Mrg
namespace Go.Proofs.YtfimalbdlepfnaaDoor
open Go.RowKit Go.Bar Go.Bar.Leb Go.Bar.Lab Go.Bar.Xor Go.Bar.Mrg Go.ChangeShapes Go.WideShapes Go.ChangeAt

theorem Szd.mono {t : List Rv} {m p m' p' : Nat} (h : Szd t m p) (h1 : m ≤ m') (h2 : p ≤ p') : Szd t m' p' := ⟨Nat.le_trans h.1 h1, fun x hx => ⟨(h.2 x hx).1, Nat.le_trans (h.2 x hx).2 h2⟩⟩
/-- a table in memory: its value, its rows, what it is, how great -/
def Mt (w : World) (v : Value) (t : List Rv) (R : List Row) (m p : Nat) : Prop := TbAt w v t ∧ t.map plR = R ∧ Szd t m p
theorem Mt.below {w w' : World} {v : Value} {t : List Rv} {R : List Row} {m p : Nat} (h : Mt w v t R m p) (hb : Below w.heap.size w w') : Mt w' v t R m p := ⟨h.1.below hb, h.2⟩
theorem tables2 {w : World} {v1 v2 : Value} {t1 t2 : List Rv} {R1 R2 : List Row} {m p : Nat} (h1 : Mt w v1 t1 R1 m p) (h2 : Mt w v2 t2 R2 m p) (b1 : Tb R1) (b2 : Tb R2) (e1 : 2 * m ≤ 1000000) (e2 : 2 * m * p ≤ 10000000) :
    Calls Tryd.prog 15 #[.slice (some ⟨w.heap.size, 0, none⟩) 2 2] (w.alloc (.cells #[v1, v2] 35)) (RetMt (w.alloc (.cells #[v1, v2] 35)) (joinT [R1, R2]) (2 * m) (2 * m * p)) := by
  refine tables_at 35 [v1, v2] [t1, t2] 2 m p _ w rfl rfl (by decide) (fun i t ht => ?_) (all2 h1.2.2 h2.2.2) (all2 (by rw [h1.2.1]; exact b1.rls) (by rw [h2.2.1]; exact b2.rls)) (fun S hS => ?_) e1 e2
  · rcases i with _ | _ | i
    · obtain rfl : t1 = t := by simpa using ht
      exact ⟨_, rfl, h1.1⟩
    · obtain rfl : t2 = t := by simpa using ht
      exact ⟨_, rfl, h2.1⟩
    · simp at ht
  · have h := hS
    unfold plT at h
    simp only [List.map_cons, List.map_nil, h1.2.1, h2.2.1] at h
    exact want_tabs h (all2 b1 b2)
theorem tables3 {w : World} {v1 v2 v3 : Value} {t1 t2 t3 : List Rv} {R1 R2 R3 : List Row} {m p : Nat} (h1 : Mt w v1 t1 R1 m p) (h2 : Mt w v2 t2 R2 m p) (h3 : Mt w v3 t3 R3 m p) (b1 : Tb R1) (b2 : Tb R2) (b3 : Tb R3) (e1 : 3 * m ≤ 1000000) (e2 : 3 * m * p ≤ 10000000) :
    Calls Tryd.prog 15 #[.slice (some ⟨w.heap.size, 0, none⟩) 3 3] (w.alloc (.cells #[v1, v2, v3] 35)) (RetMt (w.alloc (.cells #[v1, v2, v3] 35)) (joinT [R1, R2, R3]) (3 * m) (3 * m * p)) := by
  refine tables_at 35 [v1, v2, v3] [t1, t2, t3] 3 m p _ w rfl rfl (by decide) (fun i t ht => ?_) (all3 h1.2.2 h2.2.2 h3.2.2) (all3 (by rw [h1.2.1]; exact b1.rls) (by rw [h2.2.1]; exact b2.rls) (by rw [h3.2.1]; exact b3.rls)) (fun S hS => ?_) e1 e2
  · rcases i with _ | _ | _ | i
    · obtain rfl : t1 = t := by simpa using ht
      exact ⟨_, rfl, h1.1⟩
    · obtain rfl : t2 = t := by simpa using ht
      exact ⟨_, rfl, h2.1⟩
    · obtain rfl : t3 = t := by simpa using ht
      exact ⟨_, rfl, h3.1⟩
    · simp at ht
  · have h := hS
    unfold plT at h
    simp only [List.map_cons, List.map_nil, h1.2.1, h2.2.1, h3.2.1] at h
    exact want_tabs h (all3 b1 b2 b3)

set_option maxHeartbeats 8000000 in
set_option maxRecDepth 10000 in
theorem mergeOrder_walk0 (v0 : Value) (l0 : List On3) (v1 : Value) (l1 : List On3) (v2 : Value) (l2 : List On3) (W : World) (h0 : O3Arg W v0 l0) (h1 : O3Arg W v1 l1) (h2 : O3Arg W v2 l2) (_ : True) :
    Calls Tryd.prog 4 #[v0, v1, v2] W (RetBelow W (.bool true)) := by
  have H0 := Lib.hid h0
  have H1 := Lib.hid h1
  have H2 := Lib.hid h2
  obtain ⟨X, hX⟩ : ∃ X, X = tab3 (agP l0) := ⟨_, rfl⟩
  obtain ⟨Y, hY⟩ : ∃ Y, Y = tab3 (agP l1) := ⟨_, rfl⟩
  obtain ⟨Z, hZ⟩ : ∃ Z, Z = tab3 (agP l2) := ⟨_, rfl⟩
  have BX := Lib.hid (show Tb X by rw [hX]; exact tab3_tb _)
  have BY := Lib.hid (show Tb Y by rw [hY]; exact tab3_tb _)
  have BZ := Lib.hid (show Tb Z by rw [hZ]; exact tab3_tb _)
  have hord := join_orders BX.out BY.out BZ.out (by rw [hX]; exact agr_tab l0) (by rw [hY]; exact agr_tab l1) (by rw [hZ]; exact agr_tab l2)
  have HORD := Lib.hid hord
  have HC := Lib.hid (join_spec (all2 BX.out BY.out)).1
  have HE := Lib.hid (join_spec (all2 BY.out BZ.out)).1
  have SX := Lib.hid (fun (t : List Rv) (ht : t.map plR = X) => (szd_tab (ht.trans hX) : Szd t 40 40))
  have SY := Lib.hid (fun (t : List Rv) (ht : t.map plR = Y) => (szd_tab (ht.trans hY) : Szd t 40 40))
  have SZ := Lib.hid (fun (t : List Rv) (ht : t.map plR = Z) => (szd_tab (ht.trans hZ) : Szd t 40 40))
  have TX := Lib.hid (fun v w (h : O3At w v (agP l0)) => (show Calls Tryd.prog 12 #[v] w (RetTwo w X) by rw [hX]; exact table_any v _ w h))
  have TY := Lib.hid (fun v w (h : O3At w v (agP l1)) => (show Calls Tryd.prog 12 #[v] w (RetTwo w Y) by rw [hY]; exact table_any v _ w h))
  have TZ := Lib.hid (fun v w (h : O3At w v (agP l2)) => (show Calls Tryd.prog 12 #[v] w (RetTwo w Z) by rw [hZ]; exact table_any v _ w h))
  clear h0 h1 h2 hX hY hZ hord
  go_enter Tryd.func4, Tryd.ntmps4
  have B0 := Lib.hid (Below.refl W.heap.size W)
  have hag0 := agree_any v0 l0 W H0.out
  have HAG0 := Lib.hid hag0
  clear hag0
  go_wp2_with fail
  refine HAG0.out.mono ?_
  rintro e w1 ⟨va0, rfl, na0⟩
  have NA0 := Lib.hid (show O3At w1 va0 (agP l0) from na0.slice)
  have B1 := Lib.hid (below_trans B0.out na0.below)
  clear na0 HAG0 B0
  go_wp2_with fail
  refine (TX.out _ _ NA0.out).mono ?_
  rintro e w2 ⟨vt0, ut0, tt0, st0, rfl, d1, _, m1, _⟩
  have B2 := Lib.hid (below_trans B1.out d1.n.below)
  have Xm := Lib.hid (show Mt w2 vt0 tt0 X 40 40 from ⟨(d1.rtb (Below.refl _ _)).tb, m1, SX.out _ m1⟩)
  obtain ⟨A0, c0, rfl, _⟩ := Xm.out.1.shape
  have Xm2 := Xm
  clear d1 m1 Xm NA0 B1
  have hag1 := agree_any v1 l1 w2 (⟨H1.out.1.below B2.out, H1.out.2⟩)
  have HAG1 := Lib.hid hag1
  clear hag1
  go_wp2_with fail
  refine HAG1.out.mono ?_
  rintro e w3 ⟨va1, rfl, na1⟩
  have NA1 := Lib.hid (show O3At w3 va1 (agP l1) from na1.slice)
  have Xm3 := Lib.hid (Xm2.out.below na1.below)
  have B3 := Lib.hid (below_trans B2.out na1.below)
  clear na1 HAG1 Xm2 B2
  go_wp2_with fail
  refine (TY.out _ _ NA1.out).mono ?_
  rintro e w4 ⟨vt1, ut1, tt1, st1, rfl, d1, _, m1, _⟩
  have Xm4 := Lib.hid (Xm3.out.below d1.n.below)
  have B4 := Lib.hid (below_trans B3.out d1.n.below)
  have Ym := Lib.hid (show Mt w4 vt1 tt1 Y 40 40 from ⟨(d1.rtb (Below.refl _ _)).tb, m1, SY.out _ m1⟩)
  obtain ⟨A1, c1, rfl, _⟩ := Ym.out.1.shape
  have Ym4 := Ym
  clear d1 m1 Ym NA1 Xm3 B3
  have hag2 := agree_any v2 l2 w4 (⟨H2.out.1.below B4.out, H2.out.2⟩)
  have HAG2 := Lib.hid hag2
  clear hag2
  go_wp2_with fail
  refine HAG2.out.mono ?_
  rintro e w5 ⟨va2, rfl, na2⟩
  have NA2 := Lib.hid (show O3At w5 va2 (agP l2) from na2.slice)
  have Xm5 := Lib.hid (Xm4.out.below na2.below)
  have Ym5 := Lib.hid (Ym4.out.below na2.below)
  have B5 := Lib.hid (below_trans B4.out na2.below)
  clear na2 HAG2 Xm4 Ym4 B4
  go_wp2_with fail
  refine (TZ.out _ _ NA2.out).mono ?_
  rintro e w6 ⟨vt2, ut2, tt2, st2, rfl, d1, _, m1, _⟩
  have Xm6 := Lib.hid (Xm5.out.below d1.n.below)
  have Ym6 := Lib.hid (Ym5.out.below d1.n.below)
  have B6 := Lib.hid (below_trans B5.out d1.n.below)
  have Zm := Lib.hid (show Mt w6 vt2 tt2 Z 40 40 from ⟨(d1.rtb (Below.refl _ _)).tb, m1, SZ.out _ m1⟩)
  obtain ⟨A2, c2, rfl, _⟩ := Zm.out.1.shape
  have Zm6 := Zm
  clear d1 m1 Zm NA2 Xm5 Ym5 B5
  have h9 := tables3 (m := 40) (p := 40) Xm6.out Ym6.out Zm6.out BX.out BY.out BZ.out (by decide) (by decide)
  have H9 := Lib.hid h9
  clear h9
  go_wp2_with fail
  refine H9.out.mono ?_
  rintro e w7 ⟨va, ta, rfl, b9, h9, m9, z9⟩
  have b99 := below_trans (below_alloc1 w6 _) b9
  have Xm7 := Lib.hid (Xm6.out.below b99)
  have Ym7 := Lib.hid (Ym6.out.below b99)
  have Zm7 := Lib.hid (Zm6.out.below b99)
  have B7 := Lib.hid (below_trans B6.out b99)
  have am7 := Lib.hid (show Mt w7 va ta (joinT [X, Y, Z]) 120 4800 from ⟨h9, m9, z9⟩)
  obtain ⟨Aa, ca, rfl, _⟩ := am7.out.1.shape
  clear b9 h9 m9 z9 b99 H9 Xm6 Ym6 Zm6 B6
  have h9 := told_at am7.out.1 am7.out.2.1 am7.out.2.2 (by decide)
  have H9 := Lib.hid h9
  clear h9
  go_wp2_with fail
  refine H9.out.mono ?_
  rintro e w8 ⟨vA, tA, rfl, b9, h9, m9, z9⟩
  have Xm8 := Lib.hid (Xm7.out.below b9)
  have Ym8 := Lib.hid (Ym7.out.below b9)
  have Zm8 := Lib.hid (Zm7.out.below b9)
  have B8 := Lib.hid (below_trans B7.out b9)
  have Am8 := Lib.hid (show Mt w8 vA tA (joinT [X, Y, Z]) 120 4800 from ⟨h9, m9, z9⟩)
  clear b9 h9 m9 z9 H9 am7 Xm7 Ym7 Zm7 B7
  go_wp2_with fail
  refine (awake14_any _).mono ?_
  rintro e w9 ⟨rfl, b9⟩
  have Xm9 := Lib.hid (Xm8.out.below b9)
  have Ym9 := Lib.hid (Ym8.out.below b9)
  have Zm9 := Lib.hid (Zm8.out.below b9)
  have Am9 := Lib.hid (Am8.out.below b9)
  have B9 := Lib.hid (below_trans B8.out b9)
  clear b9 Xm8 Ym8 Zm8 Am8 B8
  have h9 := tables3 (m := 40) (p := 40) Zm9.out Xm9.out Ym9.out BZ.out BX.out BY.out (by decide) (by decide)
  have H9 := Lib.hid h9
  clear h9
  go_wp2_with fail
  refine H9.out.mono ?_
  rintro e w10 ⟨vb, tb, rfl, b9, h9, m9, z9⟩
  have b99 := below_trans (below_alloc1 w9 _) b9
  have Xm10 := Lib.hid (Xm9.out.below b99)
  have Ym10 := Lib.hid (Ym9.out.below b99)
  have Zm10 := Lib.hid (Zm9.out.below b99)
  have Am10 := Lib.hid (Am9.out.below b99)
  have B10 := Lib.hid (below_trans B9.out b99)
  have bm10 := Lib.hid (show Mt w10 vb tb (joinT [Z, X, Y]) 120 4800 from ⟨h9, m9, z9⟩)
  obtain ⟨Ab, cb, rfl, _⟩ := bm10.out.1.shape
  clear b9 h9 m9 z9 b99 H9 Xm9 Ym9 Zm9 Am9 B9
  have h9 := told_at bm10.out.1 bm10.out.2.1 bm10.out.2.2 (by decide)
  have H9 := Lib.hid h9
  clear h9
  go_wp2_with fail
  refine H9.out.mono ?_
  rintro e w11 ⟨vC, tC, rfl, b9, h9, m9, z9⟩
  have Xm11 := Lib.hid (Xm10.out.below b9)
  have Ym11 := Lib.hid (Ym10.out.below b9)
  have Zm11 := Lib.hid (Zm10.out.below b9)
  have Am11 := Lib.hid (Am10.out.below b9)
  have B11 := Lib.hid (below_trans B10.out b9)
  have Cm11 := Lib.hid (show Mt w11 vC tC (joinT [Z, X, Y]) 120 4800 from ⟨h9, m9, z9⟩)
  clear b9 h9 m9 z9 H9 bm10 Xm10 Ym10 Zm10 Am10 B10
  have h9 := rsame_any _ _ _ _ w11 Am11.out.1 Cm11.out.1 (Am11.out.2.1.trans (HORD.out.1.trans Cm11.out.2.1.symm))
  have H9 := Lib.hid h9
  clear h9
  go_wp2_with fail
  refine H9.out.mono ?_
  rintro e w12 ⟨rfl, b9⟩
  have Xm12 := Lib.hid (Xm11.out.below b9)
  have Ym12 := Lib.hid (Ym11.out.below b9)
  have Zm12 := Lib.hid (Zm11.out.below b9)
  have Am12 := Lib.hid (Am11.out.below b9)
  have B12 := Lib.hid (below_trans B11.out b9)
  clear b9 H9 Cm11 Xm11 Ym11 Zm11 Am11 B11
  have h9 := tables2 (m := 40) (p := 40) Xm12.out Ym12.out BX.out BY.out (by decide) (by decide)
  have H9 := Lib.hid h9
  clear h9
  go_wp2_with fail
  refine H9.out.mono ?_
  rintro e w13 ⟨vd, td, rfl, b9, h9, m9, z9⟩
  have b99 := below_trans (below_alloc1 w12 _) b9
  have Xm13 := Lib.hid (Xm12.out.below b99)
  have Ym13 := Lib.hid (Ym12.out.below b99)
  have Zm13 := Lib.hid (Zm12.out.below b99)
  have Am13 := Lib.hid (Am12.out.below b99)
  have B13 := Lib.hid (below_trans B12.out b99)
  have dm13 := Lib.hid (show Mt w13 vd td (joinT [X, Y]) 80 3200 from ⟨h9, m9, z9⟩)
  obtain ⟨Ad, cd, rfl, _⟩ := dm13.out.1.shape
  clear b9 h9 m9 z9 b99 H9 Xm12 Ym12 Zm12 Am12 B12
  have h9 := tables2 (m := 80) (p := 3200) ⟨dm13.out.1, dm13.out.2.1, dm13.out.2.2.mono (by decide) (by decide)⟩ ⟨Zm13.out.1, Zm13.out.2.1, Zm13.out.2.2.mono (by decide) (by decide)⟩ HC.out BZ.out (by decide) (by decide)
  have H9 := Lib.hid h9
  clear h9
  go_wp2_with fail
  refine H9.out.mono ?_
  rintro e w14 ⟨vf, tf, rfl, b9, h9, m9, z9⟩
  have b99 := below_trans (below_alloc1 w13 _) b9
  have Xm14 := Lib.hid (Xm13.out.below b99)
  have Ym14 := Lib.hid (Ym13.out.below b99)
  have Zm14 := Lib.hid (Zm13.out.below b99)
  have Am14 := Lib.hid (Am13.out.below b99)
  have dm14 := Lib.hid (dm13.out.below b99)
  have B14 := Lib.hid (below_trans B13.out b99)
  have fm14 := Lib.hid (show Mt w14 vf tf (joinT [joinT [X, Y], Z]) 160 512000 from ⟨h9, m9, z9⟩)
  obtain ⟨Af, cf, rfl, _⟩ := fm14.out.1.shape
  clear b9 h9 m9 z9 b99 H9 Xm13 Ym13 Zm13 Am13 dm13 B13
  have h9 := told_at fm14.out.1 fm14.out.2.1 fm14.out.2.2 (by decide)
  have H9 := Lib.hid h9
  clear h9
  go_wp2_with fail
  refine H9.out.mono ?_
  rintro e w15 ⟨vG, tG, rfl, b9, h9, m9, z9⟩
  have Xm15 := Lib.hid (Xm14.out.below b9)
  have Ym15 := Lib.hid (Ym14.out.below b9)
  have Zm15 := Lib.hid (Zm14.out.below b9)
  have Am15 := Lib.hid (Am14.out.below b9)
  have B15 := Lib.hid (below_trans B14.out b9)
  have Gm15 := Lib.hid (show Mt w15 vG tG (joinT [joinT [X, Y], Z]) 160 512000 from ⟨h9, m9, z9⟩)
  clear b9 h9 m9 z9 H9 fm14 Xm14 Ym14 Zm14 Am14 B14
  have h9 := rsame_any _ _ _ _ w15 Am15.out.1 Gm15.out.1 (Am15.out.2.1.trans (HORD.out.2.1.trans Gm15.out.2.1.symm))
  have H9 := Lib.hid h9
  clear h9
  go_wp2_with fail
  refine H9.out.mono ?_
  rintro e w16 ⟨rfl, b9⟩
  have Xm16 := Lib.hid (Xm15.out.below b9)
  have Ym16 := Lib.hid (Ym15.out.below b9)
  have Zm16 := Lib.hid (Zm15.out.below b9)
  have Am16 := Lib.hid (Am15.out.below b9)
  have B16 := Lib.hid (below_trans B15.out b9)
  clear b9 H9 Gm15 Xm15 Ym15 Zm15 Am15 B15
  have h9 := tables2 (m := 40) (p := 40) Ym16.out Zm16.out BY.out BZ.out (by decide) (by decide)
  have H9 := Lib.hid h9
  clear h9
  go_wp2_with fail
  refine H9.out.mono ?_
  rintro e w17 ⟨vi, ti, rfl, b9, h9, m9, z9⟩
  have b99 := below_trans (below_alloc1 w16 _) b9
  have Xm17 := Lib.hid (Xm16.out.below b99)
  have Ym17 := Lib.hid (Ym16.out.below b99)
  have Zm17 := Lib.hid (Zm16.out.below b99)
  have Am17 := Lib.hid (Am16.out.below b99)
  have B17 := Lib.hid (below_trans B16.out b99)
  have im17 := Lib.hid (show Mt w17 vi ti (joinT [Y, Z]) 80 3200 from ⟨h9, m9, z9⟩)
  obtain ⟨Ai, ci, rfl, _⟩ := im17.out.1.shape
  clear b9 h9 m9 z9 b99 H9 Xm16 Ym16 Zm16 Am16 B16
  have h9 := tables2 (m := 80) (p := 3200) ⟨Xm17.out.1, Xm17.out.2.1, Xm17.out.2.2.mono (by decide) (by decide)⟩ ⟨im17.out.1, im17.out.2.1, im17.out.2.2.mono (by decide) (by decide)⟩ BX.out HE.out (by decide) (by decide)
  have H9 := Lib.hid h9
  clear h9
  go_wp2_with fail
  refine H9.out.mono ?_
  rintro e w18 ⟨vj, tj, rfl, b9, h9, m9, z9⟩
  have b99 := below_trans (below_alloc1 w17 _) b9
  have Xm18 := Lib.hid (Xm17.out.below b99)
  have Ym18 := Lib.hid (Ym17.out.below b99)
  have Zm18 := Lib.hid (Zm17.out.below b99)
  have Am18 := Lib.hid (Am17.out.below b99)
  have im18 := Lib.hid (im17.out.below b99)
  have B18 := Lib.hid (below_trans B17.out b99)
  have jm18 := Lib.hid (show Mt w18 vj tj (joinT [X, joinT [Y, Z]]) 160 512000 from ⟨h9, m9, z9⟩)
  obtain ⟨Aj, cj, rfl, _⟩ := jm18.out.1.shape
  clear b9 h9 m9 z9 b99 H9 Xm17 Ym17 Zm17 Am17 im17 B17
  have h9 := told_at jm18.out.1 jm18.out.2.1 jm18.out.2.2 (by decide)
  have H9 := Lib.hid h9
  clear h9
  go_wp2_with fail
  refine H9.out.mono ?_
  rintro e w19 ⟨vK, tK, rfl, b9, h9, m9, z9⟩
  have Xm19 := Lib.hid (Xm18.out.below b9)
  have Ym19 := Lib.hid (Ym18.out.below b9)
  have Zm19 := Lib.hid (Zm18.out.below b9)
  have Am19 := Lib.hid (Am18.out.below b9)
  have B19 := Lib.hid (below_trans B18.out b9)
  have Km19 := Lib.hid (show Mt w19 vK tK (joinT [X, joinT [Y, Z]]) 160 512000 from ⟨h9, m9, z9⟩)
  clear b9 h9 m9 z9 H9 jm18 Xm18 Ym18 Zm18 Am18 B18
  have h9 := rsame_any _ _ _ _ w19 Am19.out.1 Km19.out.1 (Am19.out.2.1.trans (HORD.out.2.2.trans Km19.out.2.1.symm))
  have H9 := Lib.hid h9
  clear h9
  go_wp2_with fail
  refine H9.out.mono ?_
  rintro e w20 ⟨rfl, b9⟩
  have Xm20 := Lib.hid (Xm19.out.below b9)
  have Ym20 := Lib.hid (Ym19.out.below b9)
  have Zm20 := Lib.hid (Zm19.out.below b9)
  have Am20 := Lib.hid (Am19.out.below b9)
  have B20 := Lib.hid (below_trans B19.out b9)
  clear b9 H9 Km19 Xm19 Ym19 Zm19 Am19 B19
  go_wp2_with fail
  go_ret
  exact ⟨rfl, B20.out⟩
set_option maxHeartbeats 8000000 in
set_option maxRecDepth 100000 in
theorem mergeOrder_lifted (os : Os) (started : os.Started) (H : Type) (enc : TypeId × Value → H) :
    ReturnsInHanded {} Tryd.checked os 4 .any (fun w args => (Rows.mergeOrderSpec.pre enc Tryd.prog Tryd.f4 [] false w args ∧ laidMetH Tryd.prog [("unicode/utf8.acceptRanges", Rows.laid_unicode_utf8_acceptRanges), ("unicode/utf8.first", Rows.laid_unicode_utf8_first)] w) ∧ sizedMet enc Tryd.prog Tryd.f4 (OpenSpec.ofChange Rows.mergeOrderSpec) false w args)
      (Rows.mergeOrderSpec.post enc Tryd.prog Tryd.f4 false true false false) := by
  refine returnsInHanded_of_change_and (C := Tryd.checked) (X := fun w _ => laidMetH Tryd.prog [("unicode/utf8.acceptRanges", Rows.laid_unicode_utf8_acceptRanges), ("unicode/utf8.first", Rows.laid_unicode_utf8_first)] w) (fun _ _ _ hh h => h.of_heap hh) law_own started (by kernel_rfl) Tryd.func4
    (ChangeSpec.witness_shaped (enc := enc) (C := Tryd.checked) (os := os) (X := fun w _ => laidMetH Tryd.prog [("unicode/utf8.acceptRanges", Rows.laid_unicode_utf8_acceptRanges), ("unicode/utf8.first", Rows.laid_unicode_utf8_first)] w) false (World.laidAll Tryd.prog os [("unicode/utf8.acceptRanges", Rows.laid_unicode_utf8_acceptRanges), ("unicode/utf8.first", Rows.laid_unicode_utf8_first)]) #[.slice none 0 0, .slice none 0 0, .slice none 0 0] 8 (World.laidAll_os _ _ _)
      (World.shaped_of_ZipB (by kernel_rfl) (by kernel_rfl)) (by kernel_rfl) (by kernel_rfl) (by kernel_rfl) (door_met os _)) ?_
  intro W base args ds gs before hval0 hW _ _ hL _
  have hval : ∀ (j : Nat) t v, Tryd.f4.params[j]? = some t → args[j]? = some v → Value.okWide Tryd.prog W .any base t v := hval0
  have hW' := hW
  obtain ⟨p, q, hA0, hV, rfl, _, _⟩ := hW
  have hA : DataW.TrodAll enc Tryd.prog W 0 (fun _ => true) true Tryd.f4.params.toList args.toList ds p := hA0
  rw [Tryd.params4] at hA hval
  obtain ⟨v0, vs0, d0, ds0, p0, q0, hargs, rfl, rfl, h0, r0⟩ := trodAll_cons hA
  obtain ⟨v1, vs1, d1, ds1, p1, q1, rfl, rfl, rfl, h1, r1⟩ := trodAll_cons r0
  obtain ⟨v2, vs2, d2, ds2, p2, q2, rfl, rfl, rfl, h2, r2⟩ := trodAll_cons r1
  obtain ⟨rfl, rfl, rfl⟩ := trodAll_nil r2
  obtain rfl : args = #[v0, v1, v2] := by cases args; simp_all
  obtain ⟨rfl, rfl⟩ := trodVars_none hV
  obtain ⟨ts0, hts0⟩ := open_arg14 (hval 0 25 v0 rfl rfl) h0
  obtain ⟨ts1, hts1⟩ := open_arg14 (hval 1 25 v1 rfl rfl) h1
  obtain ⟨ts2, hts2⟩ := open_arg14 (hval 2 25 v2 rfl rfl) h2
  refine (mergeOrder_walk0 v0 ts0 v1 ts1 v2 ts2 W hts0 hts1 hts2 (of_laid hL)).mono fun e W' ⟨he, hb⟩ => ?_
  subst he
  exact ⟨_, rfl, law_post law_laid (by intro t ht; rw [Tryd.params4] at ht; simp only [List.mem_cons, List.not_mem_nil, or_false] at ht; rcases ht with rfl | rfl | rfl <;> exact ⟨by kernel_rfl, of_decide_eq_true (by kernel_rfl)⟩) rfl Tryd.underlying4 rfl rfl hW' hb⟩

theorem mergeOrder_holds : Rows.MergeOrderSaid :=
  OpenClaim.holds_of_wide 4 Tryd.f4 rfl rfl rfl rfl rfl rfl rfl ⟨rfl, rfl, rfl, rfl, rfl⟩ rfl rfl rfl rfl rfl (by kernel_rfl) Tryd.func4 (by kernel_rfl)
    (of_decide_eq_true (by kernel_rfl)) (by unfold Func.isWrapper; first | (rw [if_pos (by decide +kernel)]; kernel_rfl) | (rw [if_neg (by decide +kernel)]; exact ⟨rfl, rfl⟩))
    (fun os started H enc _ => mergeOrder_lifted os started H enc)

theorem mergeOrder_card : Rows.MergeOrderCardSaid :=
  Claim7.holds_tied_plain_at .later [] [.data, .pinned] true (true, "b5117781a2fc4f5bf1bebc4ed0b17e914806c6cca6626edf4671d5f934c5a5b4") true
    mergeOrder_holds (fun _ h => by cases h) (by kernel_rfl) (fun _ h => by cases h) mergeOrder_row_tie rfl ⟨rfl, rfl⟩ (by kernel_rfl) rfl
    (fun f fn hf hfn => by
      obtain rfl : f = 4 := Option.some.inj ((show Tryd.prog.funcNamed "barograph/barographlaw14.MergeOrder" = some 4 by kernel_rfl).symm.trans hf) |>.symm
      obtain rfl : fn = Tryd.f4 := (Option.some.inj (Tryd.func4.symm.trans hfn)).symm
      exact ⟨by kernel_rfl, fun j t ht => by
        rw [Tryd.params4] at ht
        rcases j with _ | j
        · obtain rfl : t = 25 := by simpa using ht.symm
          exact (show Tryd.prog.wantsStandIn 25 = false by kernel_rfl)
        rcases j with _ | j
        · obtain rfl : t = 25 := by simpa using ht.symm
          exact (show Tryd.prog.wantsStandIn 25 = false by kernel_rfl)
        rcases j with _ | j
        · obtain rfl : t = 25 := by simpa using ht.symm
          exact (show Tryd.prog.wantsStandIn 25 = false by kernel_rfl)
        simp at ht⟩)
    (by kernel_rfl)

end Go.Proofs.YtfimalbdlepfnaaDoor
