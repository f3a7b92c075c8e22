/-
  What is between two times, and between the second and a third one, together is what is between the first and the third one: of any table. No condition.
-/
import Derived.Test.YtfimalbdlepfnaaDoorZMrgAE
import Derived.Test.YtfimalbdlepfnaaDoorTie
import Derived.Test.YtfimalbdlepfnaaDoorCards

namespace Go.Proofs.YtfimalbdlepfnaaDoor
open Go.RowKit Go.Bar Go.Bar.Leb Go.Bar.Lab Go.Bar.Xor Go.Bar.Mrg Go.ChangeShapes Go.WideShapes Go.ChangeAt

set_option maxHeartbeats 8000000 in
set_option maxRecDepth 10000 in
theorem mergeSplit_walk0 (v : Value) (l : List On3) (x : Int) (_ : (Lit.int .i64 x).wf = true) (y : Int) (_ : (Lit.int .i64 y).wf = true) (z : Int) (_ : (Lit.int .i64 z).wf = true) (W : World) (h : O3Arg W v l) (_ : True) :
    Calls Tryd.prog 7 #[v, .int .i64 x, .int .i64 y, .int .i64 z] W (RetBelow W (.bool true)) := by
  have HT := Lib.hid (table_any v l W h.1)
  obtain ⟨R, hR⟩ : ∃ R, R = tab3 l := ⟨_, rfl⟩
  have htb : Tb R := by rw [hR]; exact tab3_tb l
  have hsz : ∀ t : List Rv, t.map plR = R → Szd t 40 40 := fun t ht => szd_tab (ht.trans hR)
  rw [← hR] at HT
  have HTB := Lib.hid htb
  have HSZ := Lib.hid hsz
  clear h hR htb hsz
  go_enter Tryd.func7, Tryd.ntmps7
  go_wp2_with fail
  refine HT.out.mono ?_
  rintro e w1 ⟨v1, u1, t1, s1, rfl, d1, e1, m1, n1⟩
  have D1 := Lib.hid (d1.rtb (Below.refl _ _)).tb
  have M1 := Lib.hid m1
  have B1 := Lib.hid d1.n.below
  obtain ⟨A1, c1, rfl, _⟩ := D1.out.shape
  clear d1 e1 m1 n1 HT
  go_wp2_with fail
  refine (awake14_any _).mono ?_
  rintro e w2 ⟨rfl, b2⟩
  have D2 := Lib.hid (D1.out.below b2)
  have B2 := Lib.hid (below_trans B1.out b2)
  clear b2 D1 B1
  have hcase : (x ≤ y ∧ y ≤ z) ∨ (x ≤ y ∧ z < y) ∨ y < x := by omega
  rcases hcase with ⟨h1, h2⟩ | ⟨h1, h2⟩ | h1
  case inr.inl =>
    have g1 : decide (y < x) = false := decide_eq_false (by omega)
    have g2 : decide (z < y) = true := decide_eq_true h2
    go_wp2_with fail
    refine (awake14_any _).mono ?_
    rintro e w3 ⟨rfl, b3⟩
    have B3 := Lib.hid (below_trans B2.out b3)
    clear b3
    go_wp2_with fail
    go_ret
    exact ⟨rfl, B3.out⟩
  case inr.inr =>
    have g1 : decide (y < x) = true := decide_eq_true h1
    go_wp2_with fail
    refine (awake14_any _).mono ?_
    rintro e w3 ⟨rfl, b3⟩
    have B3 := Lib.hid (below_trans B2.out b3)
    clear b3
    go_wp2_with fail
    go_ret
    exact ⟨rfl, B3.out⟩
  case inl =>
    have g1 : decide (y < x) = false := decide_eq_false (by omega)
    have g2 : decide (z < y) = false := decide_eq_false (by omega)
    have H3 := Lib.hid (between_at x y D2.out M1.out (HSZ.out _ M1.out) (by decide) (by decide))
    go_wp2_with fail
    refine H3.out.mono ?_
    rintro e w3 ⟨v3, t3, rfl, b3, h3, m3, z3⟩
    have D3 := Lib.hid (D2.out.below b3)
    have B3 := Lib.hid (below_trans B2.out b3)
    have X3 := Lib.hid (And.intro h3 (And.intro m3 z3))
    obtain ⟨A3, c3, rfl, _⟩ := h3.shape
    clear b3 h3 m3 z3 D2 B2 H3
    have H4 := Lib.hid (between_at y z D3.out M1.out (HSZ.out _ M1.out) (by decide) (by decide))
    go_wp2_with fail
    refine H4.out.mono ?_
    rintro e w4 ⟨v4, t4, rfl, b4, h4, m4, z4⟩
    have D4 := Lib.hid (D3.out.below b4)
    have B4 := Lib.hid (below_trans B3.out b4)
    have X4 := Lib.hid (And.intro (X3.out.1.below b4) X3.out.2)
    have Y4 := Lib.hid (And.intro h4 (And.intro m4 z4))
    obtain ⟨A4, c4, rfl, _⟩ := h4.shape
    clear b4 h4 m4 z4 D3 B3 H4 X3
    have bs1 := betw_spec x y HTB.out
    have bs2 := betw_spec y z HTB.out
    have h5 := tables_at 35 [.slice A3 t3.length c3, .slice A4 t4.length c4] [t3, t4] 2 40 40 (betw R x z) w4 rfl rfl (by decide) (fun i t ht => by
      rcases i with _ | _ | i
      · obtain rfl : t3 = t := by simpa using ht
        exact ⟨_, rfl, X4.out.1⟩
      · obtain rfl : t4 = t := by simpa using ht
        exact ⟨_, rfl, Y4.out.1⟩
      · simp at ht) (all2 X4.out.2.2 Y4.out.2.2) (all2 (by rw [X4.out.2.1]; exact bs1.1.rls) (by rw [Y4.out.2.1]; exact bs2.1.rls)) (fun S hS => tabs_split HTB.out h1 h2 (by have h := hS; unfold plT at h; simpa only [List.map_cons, List.map_nil, X4.out.2.1, Y4.out.2.1] using h)) (by decide) (by decide)
    have H5 := Lib.hid h5
    clear h5 bs1 bs2
    go_wp2_with fail
    refine H5.out.mono ?_
    rintro e w5 ⟨v5, t5, rfl, b5, h5, m5, z5⟩
    have b45 := below_trans (below_alloc1 w4 _) b5
    have D5 := Lib.hid (D4.out.below b45)
    have B5 := Lib.hid (below_trans B4.out b45)
    have H6 := Lib.hid (told_at h5 m5 z5 (by decide))
    clear b45 b5 h5 m5 z5 H5 D4 B4 X4 Y4
    go_wp2_with fail
    refine H6.out.mono ?_
    rintro e w6 ⟨v6, t6, rfl, b6, h6, m6, z6⟩
    have D6 := Lib.hid (D5.out.below b6)
    have B6 := Lib.hid (below_trans B5.out b6)
    have X6 := Lib.hid (And.intro h6 m6)
    clear b6 h6 m6 z6 D5 B5 H6
    have H7 := Lib.hid (between_at x z D6.out M1.out (HSZ.out _ M1.out) (by decide) (by decide))
    go_wp2_with fail
    refine H7.out.mono ?_
    rintro e w7 ⟨v7, t7, rfl, b7, h7, m7, z7⟩
    have H8 := Lib.hid (told_at h7 m7 z7 (by decide))
    have B7 := Lib.hid (below_trans B6.out b7)
    have X7 := Lib.hid (And.intro (X6.out.1.below b7) X6.out.2)
    clear b7 h7 m7 z7 D6 B6 H7 X6
    go_wp2_with fail
    refine H8.out.mono ?_
    rintro e w8 ⟨v8, t8, rfl, b8, h8, m8, z8⟩
    have H9 := Lib.hid (rsame_any _ _ _ _ _ (X7.out.1.below b8) h8 (X7.out.2.trans m8.symm))
    have B8 := Lib.hid (below_trans B7.out b8)
    clear b8 h8 m8 z8 B7 H8 X7
    go_wp2_with fail
    refine H9.out.mono ?_
    rintro e w9 ⟨rfl, b9⟩
    have B9 := Lib.hid (below_trans B8.out b9)
    clear b9 B8 H9
    go_wp2_with fail
    go_ret
    exact ⟨rfl, B9.out⟩
set_option maxHeartbeats 8000000 in
set_option maxRecDepth 100000 in
theorem mergeSplit_lifted (os : Os) (started : os.Started) (H : Type) (enc : TypeId × Value → H) :
    ReturnsInHanded {} Tryd.checked os 7 .any (fun w args => (Rows.mergeSplitSpec.pre enc Tryd.prog Tryd.f7 [] false w args ∧ laidMetH Tryd.prog [("unicode/utf8.acceptRanges", Rows.laid_unicode_utf8_acceptRanges), ("unicode/utf8.first", Rows.laid_unicode_utf8_first)] w) ∧ sizedMet enc Tryd.prog Tryd.f7 (OpenSpec.ofChange Rows.mergeSplitSpec) false w args)
      (Rows.mergeSplitSpec.post enc Tryd.prog Tryd.f7 false true false false) := by
  refine returnsInHanded_of_change_and (C := Tryd.checked) (X := fun w _ => laidMetH Tryd.prog [("unicode/utf8.acceptRanges", Rows.laid_unicode_utf8_acceptRanges), ("unicode/utf8.first", Rows.laid_unicode_utf8_first)] w) (fun _ _ _ hh h => h.of_heap hh) law_own started (by kernel_rfl) Tryd.func7
    (ChangeSpec.witness_shaped (enc := enc) (C := Tryd.checked) (os := os) (X := fun w _ => laidMetH Tryd.prog [("unicode/utf8.acceptRanges", Rows.laid_unicode_utf8_acceptRanges), ("unicode/utf8.first", Rows.laid_unicode_utf8_first)] w) false (World.laidAll Tryd.prog os [("unicode/utf8.acceptRanges", Rows.laid_unicode_utf8_acceptRanges), ("unicode/utf8.first", Rows.laid_unicode_utf8_first)]) #[.slice none 0 0, .int .i64 0, .int .i64 0, .int .i64 0] 8 (World.laidAll_os _ _ _)
      (World.shaped_of_ZipB (by kernel_rfl) (by kernel_rfl)) (by kernel_rfl) (by kernel_rfl) (by kernel_rfl) (door_met os _)) ?_
  intro W base args ds gs before hval0 hW _ _ hL _
  have hval : ∀ (j : Nat) t v, Tryd.f7.params[j]? = some t → args[j]? = some v → Value.okWide Tryd.prog W .any base t v := hval0
  have hW' := hW
  obtain ⟨p, q, hA0, hV, rfl, _, _⟩ := hW
  have hA : DataW.TrodAll enc Tryd.prog W 0 (fun _ => true) true Tryd.f7.params.toList args.toList ds p := hA0
  rw [Tryd.params7] at hA hval
  obtain ⟨v0, vs0, d0, ds0, p0, q0, hargs, rfl, rfl, h0, r0⟩ := trodAll_cons hA
  obtain ⟨v1, vs1, d1, ds1, p1, q1, rfl, rfl, rfl, h1, r1⟩ := trodAll_cons r0
  obtain ⟨v2, vs2, d2, ds2, p2, q2, rfl, rfl, rfl, h2, r2⟩ := trodAll_cons r1
  obtain ⟨v3, vs3, d3, ds3, p3, q3, rfl, rfl, rfl, h3, r3⟩ := trodAll_cons r2
  obtain ⟨rfl, rfl, rfl⟩ := trodAll_nil r3
  obtain rfl : args = #[v0, v1, v2, v3] := by cases args; simp_all
  obtain ⟨rfl, rfl⟩ := trodVars_none hV
  obtain ⟨a1, rfl, rfl, rfl, w1⟩ := open_int Tryd.underlying2 (hval 1 2 v1 rfl rfl) h1
  obtain ⟨a2, rfl, rfl, rfl, w2⟩ := open_int Tryd.underlying2 (hval 2 2 v2 rfl rfl) h2
  obtain ⟨a3, rfl, rfl, rfl, w3⟩ := open_int Tryd.underlying2 (hval 3 2 v3 rfl rfl) h3
  obtain ⟨ts0, hts0⟩ := open_arg14 (hval 0 25 v0 rfl rfl) h0
  refine (mergeSplit_walk0 v0 ts0 a1 w1 a2 w2 a3 w3 W hts0 (of_laid hL)).mono fun e W' ⟨he, hb⟩ => ?_
  subst he
  exact ⟨_, rfl, law_post law_laid (by intro t ht; rw [Tryd.params7] at ht; simp only [List.mem_cons, List.not_mem_nil, or_false] at ht; rcases ht with rfl | rfl | rfl | rfl <;> exact ⟨by kernel_rfl, of_decide_eq_true (by kernel_rfl)⟩) rfl Tryd.underlying4 rfl rfl hW' hb⟩

theorem mergeSplit_holds : Rows.MergeSplitSaid :=
  OpenClaim.holds_of_wide 7 Tryd.f7 rfl rfl rfl rfl rfl rfl rfl ⟨rfl, rfl, rfl, rfl, rfl⟩ rfl rfl rfl rfl rfl (by kernel_rfl) Tryd.func7 (by kernel_rfl)
    (of_decide_eq_true (by kernel_rfl)) (by unfold Func.isWrapper; first | (rw [if_pos (by decide +kernel)]; kernel_rfl) | (rw [if_neg (by decide +kernel)]; exact ⟨rfl, rfl⟩))
    (fun os started H enc _ => mergeSplit_lifted os started H enc)

theorem mergeSplit_card : Rows.MergeSplitCardSaid :=
  Claim7.holds_tied_plain_at .later [] [.data, .pinned] true (true, "b5117781a2fc4f5bf1bebc4ed0b17e914806c6cca6626edf4671d5f934c5a5b4") true
    mergeSplit_holds (fun _ h => by cases h) (by kernel_rfl) (fun _ h => by cases h) mergeSplit_row_tie rfl ⟨rfl, rfl⟩ (by kernel_rfl) rfl
    (fun f fn hf hfn => by
      obtain rfl : f = 7 := Option.some.inj ((show Tryd.prog.funcNamed "barograph/barographlaw14.MergeSplit" = some 7 by kernel_rfl).symm.trans hf) |>.symm
      obtain rfl : fn = Tryd.f7 := (Option.some.inj (Tryd.func7.symm.trans hfn)).symm
      exact ⟨by kernel_rfl, fun j t ht => by
        rw [Tryd.params7] at ht
        rcases j with _ | j
        · obtain rfl : t = 25 := by simpa using ht.symm
          exact (show Tryd.prog.wantsStandIn 25 = false by kernel_rfl)
        rcases j with _ | j
        · obtain rfl : t = 2 := by simpa using ht.symm
          exact (show Tryd.prog.wantsStandIn 2 = false by kernel_rfl)
        rcases j with _ | j
        · obtain rfl : t = 2 := by simpa using ht.symm
          exact (show Tryd.prog.wantsStandIn 2 = false by kernel_rfl)
        rcases j with _ | j
        · obtain rfl : t = 2 := by simpa using ht.symm
          exact (show Tryd.prog.wantsStandIn 2 = false by kernel_rfl)
        simp at ht⟩)
    (by kernel_rfl)

end Go.Proofs.YtfimalbdlepfnaaDoor
