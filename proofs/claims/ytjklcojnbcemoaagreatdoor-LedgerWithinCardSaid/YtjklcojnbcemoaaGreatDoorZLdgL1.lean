/-
  Within is an order of tables: each is within itself and within what it is merged into, nothing is within all; of two that are within each other the samples are the same. No condition.
-/
import Derived.Test.YtjklcojnbcemoaaGreatDoorZLdgE
import Derived.Test.YtjklcojnbcemoaaGreatDoorTie
import Derived.Test.YtjklcojnbcemoaaGreatDoorCards

namespace Go.Proofs.YtjklcojnbcemoaaGreatDoor
open Go.RowKit Go.Bar Go.Bar.Leb Go.Bar.Lab Go.Bar.Xor Go.Bar.Mrg Go.ChangeShapes Go.WideShapes Go.ChangeAt

/-- three tables that are there -/
structure Tr3 (W w : World) (v1 v2 v3 : Value) (t1 t2 t3 : List Rv) : Prop where
  bel : Below W.heap.size W w
  x : TbAt w v1 t1
  y : TbAt w v2 t2
  z : TbAt w v3 t3
theorem Tr3.below {W w w' : World} {v1 v2 v3 : Value} {t1 t2 t3 : List Rv} (h : Tr3 W w v1 v2 v3 t1 t2 t3) (hb : Below w.heap.size w w') : Tr3 W w' v1 v2 v3 t1 t2 t3 := ⟨below_trans h.bel hb, h.x.below hb, h.y.below hb, h.z.below hb⟩
/-- tables merged: what is known of them -/
def RetTs (w : World) (ts : List (List Rv)) (N : Nat) (e : Ending) (w' : World) : Prop := ∃ v t, e = .returned v ∧ Below w.heap.size w w' ∧ TbAt w' v t ∧ tabs (plT ts) (t.map plR) ∧ t.length ≤ N
theorem two_tabs (T : TypeId) (v1 v2 : Value) (t1 t2 : List Rv) (w : World) (h1 : TbAt w v1 t1) (h2 : TbAt w v2 t2) (z1 : Szd t1 40 40) (z2 : Szd t2 40 40) (r1 : Rls (t1.map plR)) (r2 : Rls (t2.map plR)) :
    Calls Tryz.prog 9 #[.slice (some ⟨w.heap.size, 0, none⟩) 2 2] (w.alloc (.cells #[v1, v2] T)) (RetTs (w.alloc (.cells #[v1, v2] T)) [t1, t2] 80) := by
  have hts := TsAt.lit (w := w) T [v1, v2] [t1, t2] 2 rfl rfl (by decide) fun i t ht => by
    rcases i with _ | _ | i
    · obtain rfl : t1 = t := by simpa using ht
      obtain ⟨A, c, rfl, _⟩ := h1.shape
      exact ⟨A, c, rfl, h1⟩
    · obtain rfl : t2 = t := by simpa using ht
      obtain ⟨A, c, rfl, _⟩ := h2.shape
      exact ⟨A, c, rfl, h2⟩
    · simp at ht
  refine (tables_of _ [t1, t2] _ hts (all2 r1 r2) 2 40 40 (Nat.le_refl _) (all2 ⟨z1.1, fun x hx => ⟨by have := (z1.2 x hx).1; omega, (z1.2 x hx).2⟩⟩ ⟨z2.1, fun x hx => ⟨by have := (z2.2 x hx).1; omega, (z2.2 x hx).2⟩⟩) (by decide) (by decide) (by decide)).mono ?_
  rintro e w' ⟨v, t, rfl, hb, ht, hf⟩
  exact ⟨v, t, rfl, hb, ht, hf.tabs, (hf.szd (all2 z1 z2)).1⟩

set_option maxHeartbeats 8000000 in
set_option maxRecDepth 10000 in
theorem ledgerWithin_walk0 (v1 : Value) (l1 : List On3) (v2 : Value) (l2 : List On3) (v3 : Value) (l3 : List On3) (W : World) (h1 : O3Arg W v1 l1) (h2 : O3Arg W v2 l2) (h3 : O3Arg W v3 l3) (_ : True) :
    Calls Tryz.prog 3 #[v1, v2, v3] W (RetBelow W (.bool true)) := by
  have T1 := Lib.hid (table_any v1 l1 W h1.1)
  have T2 := Lib.hid (fun w (hb : Below W.heap.size W w) => table_any v2 l2 w (O3At.below h2.1 hb))
  have T3 := Lib.hid (fun w (hb : Below W.heap.size W w) => table_any v3 l3 w (O3At.below h3.1 hb))
  obtain ⟨_, _, rfl, _⟩ := h1.1.shape
  obtain ⟨_, _, rfl, _⟩ := h2.1.shape
  obtain ⟨_, _, rfl, _⟩ := h3.1.shape
  have hsz : ∀ (t : List Rv) (l : List On3), t.map plR = tab3 l → Szd t 40 40 := fun t l h => szd_tab h
  have HSZ := Lib.hid hsz
  have B1 := Lib.hid (tab3_tb l1)
  have B2 := Lib.hid (tab3_tb l2)
  have B3 := Lib.hid (tab3_tb l3)
  have S1 := Lib.hid (fun t (h : t.map plR = tab3 l1) => hsz t l1 h)
  have S2 := Lib.hid (fun t (h : t.map plR = tab3 l2) => hsz t l2 h)
  have S3 := Lib.hid (fun t (h : t.map plR = tab3 l3) => hsz t l3 h)
  clear h1 h2 h3 hsz
  obtain ⟨R1, hR1⟩ : ∃ R, R = tab3 l1 := ⟨_, rfl⟩
  obtain ⟨R2, hR2⟩ : ∃ R, R = tab3 l2 := ⟨_, rfl⟩
  obtain ⟨R3, hR3⟩ : ∃ R, R = tab3 l3 := ⟨_, rfl⟩
  rw [← hR1] at B1 T1 S1
  rw [← hR2] at B2 T2 S2
  rw [← hR3] at B3 T3 S3
  clear hR1 hR2 hR3
  go_enter Tryz.func3, Tryz.ntmps3
  go_wp2_with fail
  refine T1.out.mono ?_
  rintro e w1 ⟨u1, q1, t1, s1, rfl, d1, e1, m1, n1⟩
  have D1 := Lib.hid (And.intro (d1.rtb (Below.refl _ _)).tb (And.intro m1 d1.n.below))
  obtain ⟨A1, c1, rfl, _⟩ := D1.out.1.shape
  clear d1 e1 m1 n1 T1
  go_wp2_with fail
  refine (T2.out _ D1.out.2.2).mono ?_
  rintro e w2 ⟨u2, q2, t2, s2, rfl, d2, e2, m2, n2⟩
  have D2 := Lib.hid (And.intro (d2.rtb (Below.refl _ _)).tb (And.intro m2 d2.n.below))
  obtain ⟨A2, c2, rfl, _⟩ := D2.out.1.shape
  clear d2 e2 m2 n2 T2
  go_wp2_with fail
  refine (T3.out _ (below_trans D1.out.2.2 D2.out.2.2)).mono ?_
  rintro e w3 ⟨u3, q3, t3, s3, rfl, d3, e3, m3, n3⟩
  have M1 := Lib.hid D1.out.2.1
  have M2 := Lib.hid D2.out.2.1
  have M3 := Lib.hid m3
  obtain ⟨A3, c3, rfl, _⟩ := (d3.rtb (Below.refl _ _)).tb.shape
  have HK : Hid (Tr3 W w3 _ _ _ t1 t2 t3) := Lib.hid ⟨below_trans (below_trans D1.out.2.2 D2.out.2.2) d3.n.below, D1.out.1.below (below_trans D2.out.2.2 d3.n.below), D2.out.1.below d3.n.below, (d3.rtb (Below.refl _ _)).tb⟩
  clear d3 e3 m3 n3 T3 D1 D2
  have Wxx := Lib.hid (fun w (h : Tr3 W w (.slice A1 t1.length c1) (.slice A2 t2.length c2) (.slice A3 t3.length c3) t1 t2 t3) => within_any _ _ t1 t1 w h.x h.x (by rw [M1.out]; exact B1.out.rls) (by have := (S1.out _ M1.out).1; omega))
  rw [M1.out] at Wxx
  have Wxy := Lib.hid (fun w (h : Tr3 W w (.slice A1 t1.length c1) (.slice A2 t2.length c2) (.slice A3 t3.length c3) t1 t2 t3) => within_any _ _ t1 t2 w h.x h.y (by rw [M2.out]; exact B2.out.rls) (by have := (S2.out _ M2.out).1; omega))
  rw [M1.out, M2.out] at Wxy
  have Wyz := Lib.hid (fun w (h : Tr3 W w (.slice A1 t1.length c1) (.slice A2 t2.length c2) (.slice A3 t3.length c3) t1 t2 t3) => within_any _ _ t2 t3 w h.y h.z (by rw [M3.out]; exact B3.out.rls) (by have := (S3.out _ M3.out).1; omega))
  rw [M2.out, M3.out] at Wyz
  have Wxz := Lib.hid (fun w (h : Tr3 W w (.slice A1 t1.length c1) (.slice A2 t2.length c2) (.slice A3 t3.length c3) t1 t2 t3) => within_any _ _ t1 t3 w h.x h.z (by rw [M3.out]; exact B3.out.rls) (by have := (S3.out _ M3.out).1; omega))
  rw [M1.out, M3.out] at Wxz
  have Wyx := Lib.hid (fun w (h : Tr3 W w (.slice A1 t1.length c1) (.slice A2 t2.length c2) (.slice A3 t3.length c3) t1 t2 t3) => within_any _ _ t2 t1 w h.y h.x (by rw [M1.out]; exact B1.out.rls) (by have := (S1.out _ M1.out).1; omega))
  rw [M2.out, M1.out] at Wyx
  rw [within_self B1.out] at Wxx
  have WN := Lib.hid (fun w (h : Tr3 W w (.slice A1 t1.length c1) (.slice A2 t2.length c2) (.slice A3 t3.length c3) t1 t2 t3) => within_any (.slice none 0 0) _ [] t1 w (tb_nil w) h.x (by rw [M1.out]; exact B1.out.rls) (by have := (S1.out _ M1.out).1; omega))
  rw [show withinP (([] : List Rv).map plR) (t1.map plR) = true from rfl] at WN
  have TT := Lib.hid (fun w (h : Tr3 W w (.slice A1 t1.length c1) (.slice A2 t2.length c2) (.slice A3 t3.length c3) t1 t2 t3) => two_tabs 23 _ _ t1 t2 w h.x h.y (S1.out _ M1.out) (S2.out _ M2.out) (by rw [M1.out]; exact B1.out.rls) (by rw [M2.out]; exact B2.out.rls))
  have HX : Hid (∀ S, tabs (plT [t1, t2]) S → Rls S ∧ withinP R1 S = true) := Lib.hid (fun S hS => by
    have h := hS
    unfold plT at h
    simp only [List.map_cons, List.map_nil, M1.out, M2.out] at h
    exact ⟨(tabs_spec h (all2 B1.out B2.out)).1.rls, within_tabs B1.out B2.out h⟩)
  have HTR : Hid (withinP R1 R2 = true → withinP R2 R3 = true → withinP R1 R3 = true) := Lib.hid (within_trans B1.out B2.out B3.out)
  have HAN : Hid (withinP R1 R2 = true → withinP R2 R1 = true → R1 = R2) := Lib.hid (within_anti B1.out B2.out)
  go_wp2_with fail
  refine (awake25_any _).mono ?_
  rintro e w ⟨rfl, hb⟩
  replace HK := Lib.hid (HK.out.below hb)
  clear hb
  go_wp2_with fail
  refine (Wxx.out _ HK.out).mono ?_
  rintro e w ⟨rfl, hb⟩
  replace HK := Lib.hid (HK.out.below hb)
  clear hb
  go_wp2_with fail
  refine (TT.out _ HK.out).mono ?_
  rintro e w ⟨v7, t7, rfl, b7, h7, m7, z7⟩
  have hk2 := HK.out.below (below_trans (below_alloc1 _ _) b7)
  have hx7 := HX.out _ m7
  have W7 := within_any _ _ t1 t7 w hk2.x h7 hx7.1 (by omega)
  rw [M1.out, hx7.2] at W7
  have H7 := Lib.hid W7
  obtain ⟨A7, c7, rfl, _⟩ := h7.shape
  replace HK := Lib.hid hk2
  clear hk2 hx7 W7 h7 m7 z7 b7
  go_wp2_with fail
  refine H7.out.mono ?_
  rintro e w ⟨rfl, hb⟩
  replace HK := Lib.hid (HK.out.below hb)
  clear hb H7
  go_wp2_with fail
  refine (WN.out _ HK.out).mono ?_
  rintro e w ⟨rfl, hb⟩
  replace HK := Lib.hid (HK.out.below hb)
  clear hb
  obtain ⟨bxy, hxy⟩ : ∃ b, b = withinP R1 R2 := ⟨_, rfl⟩
  obtain ⟨byz, hyz⟩ : ∃ b, b = withinP R2 R3 := ⟨_, rfl⟩
  obtain ⟨bxz, hxz⟩ : ∃ b, b = withinP R1 R3 := ⟨_, rfl⟩
  obtain ⟨byx, hyx⟩ : ∃ b, b = withinP R2 R1 := ⟨_, rfl⟩
  rw [← hxy] at Wxy HTR HAN
  rw [← hyz] at Wyz HTR
  rw [← hxz] at Wxz HTR
  rw [← hyx] at Wyx HAN
  clear hxy hyz hxz hyx WN TT HX Wxx
  rcases bxy with _ | _
  · go_wp2_with fail
    refine (Wxy.out _ HK.out).mono ?_
    rintro e w ⟨rfl, hb⟩
    replace HK := Lib.hid (HK.out.below hb)
    clear hb
    go_wp2_with fail
    refine (Wxy.out _ HK.out).mono ?_
    rintro e w ⟨rfl, hb⟩
    replace HK := Lib.hid (HK.out.below hb)
    clear hb
    go_wp2_with fail
    go_ret
    exact ⟨rfl, HK.out.bel⟩
  · rcases byz with _ | _
    · go_wp2_with fail
      refine (Wxy.out _ HK.out).mono ?_
      rintro e w ⟨rfl, hb⟩
      replace HK := Lib.hid (HK.out.below hb)
      clear hb
      go_wp2_with fail
      refine (Wyz.out _ HK.out).mono ?_
      rintro e w ⟨rfl, hb⟩
      replace HK := Lib.hid (HK.out.below hb)
      clear hb
      rcases byx with _ | _
      · go_wp2_with fail
        refine (Wxy.out _ HK.out).mono ?_
        rintro e w ⟨rfl, hb⟩
        replace HK := Lib.hid (HK.out.below hb)
        clear hb
        go_wp2_with fail
        refine (Wyx.out _ HK.out).mono ?_
        rintro e w ⟨rfl, hb⟩
        replace HK := Lib.hid (HK.out.below hb)
        clear hb
        go_wp2_with fail
        go_ret
        exact ⟨rfl, HK.out.bel⟩
      · go_wp2_with fail
        refine (Wxy.out _ HK.out).mono ?_
        rintro e w ⟨rfl, hb⟩
        replace HK := Lib.hid (HK.out.below hb)
        clear hb
        go_wp2_with fail
        refine (Wyx.out _ HK.out).mono ?_
        rintro e w ⟨rfl, hb⟩
        replace HK := Lib.hid (HK.out.below hb)
        clear hb
        have hR := HAN.out (by trivial) (by trivial)
        have TO1 := Lib.hid (told_at HK.out.x M1.out (S1.out _ M1.out) (by decide))
        go_wp2_with fail
        refine TO1.out.mono ?_
        rintro e w ⟨v8, t8, rfl, b8, h8, m8, _⟩
        obtain ⟨A8, c8, rfl, _⟩ := h8.shape
        replace HK := Lib.hid (HK.out.below b8)
        have D8 := Lib.hid (And.intro h8 m8)
        have TO2 := Lib.hid (told_at HK.out.y M2.out (S2.out _ M2.out) (by decide))
        clear b8 h8 m8 TO1
        go_wp2_with fail
        refine TO2.out.mono ?_
        rintro e w ⟨v9, t9, rfl, b9, h9, m9, _⟩
        obtain ⟨A9, c9, rfl, _⟩ := h9.shape
        replace HK := Lib.hid (HK.out.below b9)
        have SA := Lib.hid (rsame_any _ _ _ _ _ (D8.out.1.below b9) h9 (by rw [D8.out.2, m9]; exact hR))
        clear b9 h9 m9 TO2 D8 hR
        go_wp2_with fail
        refine SA.out.mono ?_
        rintro e w ⟨rfl, hb⟩
        replace HK := Lib.hid (HK.out.below hb)
        clear hb
        go_wp2_with fail
        go_ret
        exact ⟨rfl, HK.out.bel⟩
    · obtain rfl : bxz = true := HTR.out (by trivial) (by trivial)
      go_wp2_with fail
      refine (Wxy.out _ HK.out).mono ?_
      rintro e w ⟨rfl, hb⟩
      replace HK := Lib.hid (HK.out.below hb)
      clear hb
      go_wp2_with fail
      refine (Wyz.out _ HK.out).mono ?_
      rintro e w ⟨rfl, hb⟩
      replace HK := Lib.hid (HK.out.below hb)
      clear hb
      go_wp2_with fail
      refine (Wxz.out _ HK.out).mono ?_
      rintro e w ⟨rfl, hb⟩
      replace HK := Lib.hid (HK.out.below hb)
      clear hb
      rcases byx with _ | _
      · go_wp2_with fail
        refine (Wxy.out _ HK.out).mono ?_
        rintro e w ⟨rfl, hb⟩
        replace HK := Lib.hid (HK.out.below hb)
        clear hb
        go_wp2_with fail
        refine (Wyx.out _ HK.out).mono ?_
        rintro e w ⟨rfl, hb⟩
        replace HK := Lib.hid (HK.out.below hb)
        clear hb
        go_wp2_with fail
        go_ret
        exact ⟨rfl, HK.out.bel⟩
      · go_wp2_with fail
        refine (Wxy.out _ HK.out).mono ?_
        rintro e w ⟨rfl, hb⟩
        replace HK := Lib.hid (HK.out.below hb)
        clear hb
        go_wp2_with fail
        refine (Wyx.out _ HK.out).mono ?_
        rintro e w ⟨rfl, hb⟩
        replace HK := Lib.hid (HK.out.below hb)
        clear hb
        have hR := HAN.out (by trivial) (by trivial)
        have TO1 := Lib.hid (told_at HK.out.x M1.out (S1.out _ M1.out) (by decide))
        go_wp2_with fail
        refine TO1.out.mono ?_
        rintro e w ⟨v8, t8, rfl, b8, h8, m8, _⟩
        obtain ⟨A8, c8, rfl, _⟩ := h8.shape
        replace HK := Lib.hid (HK.out.below b8)
        have D8 := Lib.hid (And.intro h8 m8)
        have TO2 := Lib.hid (told_at HK.out.y M2.out (S2.out _ M2.out) (by decide))
        clear b8 h8 m8 TO1
        go_wp2_with fail
        refine TO2.out.mono ?_
        rintro e w ⟨v9, t9, rfl, b9, h9, m9, _⟩
        obtain ⟨A9, c9, rfl, _⟩ := h9.shape
        replace HK := Lib.hid (HK.out.below b9)
        have SA := Lib.hid (rsame_any _ _ _ _ _ (D8.out.1.below b9) h9 (by rw [D8.out.2, m9]; exact hR))
        clear b9 h9 m9 TO2 D8 hR
        go_wp2_with fail
        refine SA.out.mono ?_
        rintro e w ⟨rfl, hb⟩
        replace HK := Lib.hid (HK.out.below hb)
        clear hb
        go_wp2_with fail
        go_ret
        exact ⟨rfl, HK.out.bel⟩
set_option maxHeartbeats 8000000 in
set_option maxRecDepth 100000 in
theorem ledgerWithin_lifted (os : Os) (started : os.Started) (H : Type) (enc : TypeId × Value → H) :
    ReturnsInHanded {} Tryz.checked os 3 .any (fun w args => (Rows.ledgerWithinSpec.pre enc Tryz.prog Tryz.f3 [] false w args ∧ laidMetH Tryz.prog [("unicode/utf8.acceptRanges", Rows.laid_unicode_utf8_acceptRanges), ("unicode/utf8.first", Rows.laid_unicode_utf8_first)] w) ∧ sizedMet enc Tryz.prog Tryz.f3 (OpenSpec.ofChange Rows.ledgerWithinSpec) false w args)
      (Rows.ledgerWithinSpec.post enc Tryz.prog Tryz.f3 false true false false) := by
  refine returnsInHanded_of_change_and (C := Tryz.checked) (X := fun w _ => laidMetH Tryz.prog [("unicode/utf8.acceptRanges", Rows.laid_unicode_utf8_acceptRanges), ("unicode/utf8.first", Rows.laid_unicode_utf8_first)] w) (fun _ _ _ hh h => h.of_heap hh) law_own started (by kernel_rfl) Tryz.func3
    (ChangeSpec.witness_shaped (enc := enc) (C := Tryz.checked) (os := os) (X := fun w _ => laidMetH Tryz.prog [("unicode/utf8.acceptRanges", Rows.laid_unicode_utf8_acceptRanges), ("unicode/utf8.first", Rows.laid_unicode_utf8_first)] w) false (World.laidAll Tryz.prog os [("unicode/utf8.acceptRanges", Rows.laid_unicode_utf8_acceptRanges), ("unicode/utf8.first", Rows.laid_unicode_utf8_first)]) #[.slice none 0 0, .slice none 0 0, .slice none 0 0] 8 (World.laidAll_os _ _ _)
      (World.shaped_of_ZipB (by kernel_rfl) (by kernel_rfl)) (by kernel_rfl) (by kernel_rfl) (by kernel_rfl) (door_met os _)) ?_
  intro W base args ds gs before hval0 hW _ _ hL _
  have hval : ∀ (j : Nat) t v, Tryz.f3.params[j]? = some t → args[j]? = some v → Value.okWide Tryz.prog W .any base t v := hval0
  have hW' := hW
  obtain ⟨p, q, hA0, hV, rfl, _, _⟩ := hW
  have hA : DataW.TrodAll enc Tryz.prog W 0 (fun _ => true) true Tryz.f3.params.toList args.toList ds p := hA0
  rw [Tryz.params3] at hA hval
  obtain ⟨v0, vs0, d0, ds0, p0, q0, hargs, rfl, rfl, h0, r0⟩ := trodAll_cons hA
  obtain ⟨v1, vs1, d1, ds1, p1, q1, rfl, rfl, rfl, h1, r1⟩ := trodAll_cons r0
  obtain ⟨v2, vs2, d2, ds2, p2, q2, rfl, rfl, rfl, h2, r2⟩ := trodAll_cons r1
  obtain ⟨rfl, rfl, rfl⟩ := trodAll_nil r2
  obtain rfl : args = #[v0, v1, v2] := by cases args; simp_all
  obtain ⟨rfl, rfl⟩ := trodVars_none hV
  obtain ⟨ts0, hts0⟩ := open_arg14 (hval 0 22 v0 rfl rfl) h0
  obtain ⟨ts1, hts1⟩ := open_arg14 (hval 1 22 v1 rfl rfl) h1
  obtain ⟨ts2, hts2⟩ := open_arg14 (hval 2 22 v2 rfl rfl) h2
  refine (ledgerWithin_walk0 v0 ts0 v1 ts1 v2 ts2 W hts0 hts1 hts2 (of_laid hL)).mono fun e W' ⟨he, hb⟩ => ?_
  subst he
  exact ⟨_, rfl, law_post law_laid (by intro t ht; rw [Tryz.params3] at ht; simp only [List.mem_cons, List.not_mem_nil, or_false] at ht; rcases ht with rfl | rfl | rfl <;> exact ⟨by kernel_rfl, of_decide_eq_true (by kernel_rfl)⟩) rfl Tryz.underlying4 rfl rfl hW' hb⟩

theorem ledgerWithin_holds : Rows.LedgerWithinSaid :=
  OpenClaim.holds_of_wide 3 Tryz.f3 rfl rfl rfl rfl rfl rfl rfl ⟨rfl, rfl, rfl, rfl, rfl⟩ rfl rfl rfl rfl rfl (by kernel_rfl) Tryz.func3 (by kernel_rfl)
    (of_decide_eq_true (by kernel_rfl)) (by unfold Func.isWrapper; first | (rw [if_pos (by decide +kernel)]; kernel_rfl) | (rw [if_neg (by decide +kernel)]; exact ⟨rfl, rfl⟩))
    (fun os started H enc _ => ledgerWithin_lifted os started H enc)

theorem ledgerWithin_card : Rows.LedgerWithinCardSaid :=
  Claim7.holds_tied_plain_at .later [] [.data, .pinned] true (true, "ae9c0f3564916a8dc06049776155b9824e3dd5d61280ffbab269dfcf7e900a45") true
    ledgerWithin_holds (fun _ h => by cases h) (by kernel_rfl) (fun _ h => by cases h) ledgerWithin_row_tie rfl ⟨rfl, rfl⟩ (by kernel_rfl) rfl
    (fun f fn hf hfn => by
      obtain rfl : f = 3 := Option.some.inj ((show Tryz.prog.funcNamed "barograph/barographlaw25.LedgerWithin" = some 3 by kernel_rfl).symm.trans hf) |>.symm
      obtain rfl : fn = Tryz.f3 := (Option.some.inj (Tryz.func3.symm.trans hfn)).symm
      exact ⟨by kernel_rfl, fun j t ht => by
        rw [Tryz.params3] at ht
        rcases j with _ | j
        · obtain rfl : t = 22 := by simpa using ht.symm
          exact (show Tryz.prog.wantsStandIn 22 = false by kernel_rfl)
        rcases j with _ | j
        · obtain rfl : t = 22 := by simpa using ht.symm
          exact (show Tryz.prog.wantsStandIn 22 = false by kernel_rfl)
        rcases j with _ | j
        · obtain rfl : t = 22 := by simpa using ht.symm
          exact (show Tryz.prog.wantsStandIn 22 = false by kernel_rfl)
        simp at ht⟩)
    (by kernel_rfl)

end Go.Proofs.YtjklcojnbcemoaaGreatDoor
