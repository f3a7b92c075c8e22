/-
  A table alone, with itself, and with none, is itself (merge.Tables): of any samples. No condition.
-/
import Derived.Test.YtfimalbdlepfnaaDoorZMrgAE
import Derived.Test.YtfimalbdlepfnaaDoorTie
import Derived.Test.YtfimalbdlepfnaaDoorCards

namespace Go.Proofs.YtfimalbdlepfnaaDoor
open Go.RowKit Go.Bar Go.Bar.Leb Go.Bar.Lab Go.Bar.Xor Go.Bar.Mrg Go.ChangeShapes Go.WideShapes Go.ChangeAt

set_option maxHeartbeats 8000000 in
set_option maxRecDepth 10000 in
theorem mergeOne_walk0 (v : Value) (l : List On3) (W : World) (h : O3Arg W v l) (_ : True) :
    Calls Tryd.prog 5 #[v] W (RetBelow W (.bool true)) := by
  have HT := Lib.hid (table_any v l W h.1)
  obtain ⟨R, hR⟩ : ∃ R, R = tab3 l := ⟨_, rfl⟩
  have htb : Tb R := by rw [hR]; exact tab3_tb l
  have hsz : ∀ t : List Rv, t.map plR = R → Szd t 40 40 := fun t ht => szd_tab (ht.trans hR)
  rw [← hR] at HT
  have HTB := Lib.hid htb
  have HSZ := Lib.hid hsz
  clear h hR htb hsz
  go_enter Tryd.func5, Tryd.ntmps5
  go_wp2_with fail
  refine HT.out.mono ?_
  rintro e w1 ⟨v1, u1, t1, s1, rfl, d1, e1, m1, n1⟩
  have D1 := Lib.hid (d1.rtb (Below.refl _ _)).tb
  have E1 := Lib.hid (e1.rtb (Below.refl _ _)).tb
  have M1 := Lib.hid m1
  have N1 := Lib.hid n1
  have B1 := Lib.hid d1.n.below
  obtain ⟨A1, c1, rfl, _⟩ := D1.out.shape
  clear d1 e1 m1 n1 HT
  go_wp2_with fail
  refine (awake14_any _).mono ?_
  rintro e w2 ⟨rfl, b2⟩
  have D2 := Lib.hid (D1.out.below b2)
  have E2 := Lib.hid (E1.out.below b2)
  have B2 := Lib.hid (below_trans B1.out b2)
  clear b2 D1 E1 B1
  have h3 := tables_at 35 [.slice A1 t1.length c1] [t1] 1 40 40 R w2 rfl rfl (by decide) (fun i t ht => by
    rcases i with _ | i
    · obtain rfl : t1 = t := by simpa using ht
      exact ⟨_, rfl, D2.out⟩
    · simp at ht) (all1 (HSZ.out _ M1.out)) (all1 (by rw [M1.out]; exact HTB.out.rls)) (fun S hS => tabs_self HTB.out (by have h := hS; unfold plT at h; simpa only [List.map_cons, List.map_nil, M1.out] using h)) (by decide) (by decide)
  have H3 := Lib.hid h3
  clear h3
  go_wp2_with fail
  refine H3.out.mono ?_
  rintro e w3 ⟨v3, t3, rfl, b3, h3, m3, z3⟩
  have H4 := Lib.hid (told_at h3 m3 z3 (by decide))
  have b23 := below_trans (below_alloc1 w2 _) b3
  have D3 := Lib.hid (D2.out.below b23)
  have E3 := Lib.hid (E2.out.below b23)
  have B3 := Lib.hid (below_trans B2.out b23)
  clear b23 b3 h3 m3 z3 H3 D2 E2 B2
  go_wp2_with fail
  refine H4.out.mono ?_
  rintro e w4 ⟨v4, t4, rfl, b4, h4, m4, _⟩
  have D4 := Lib.hid (D3.out.below b4)
  have E4 := Lib.hid (E3.out.below b4)
  have B4 := Lib.hid (below_trans B3.out b4)
  have H5 := Lib.hid (rsame_any _ _ _ _ _ h4 E4.out (m4.trans N1.out.symm))
  clear b4 h4 m4 H4 D3 E3 B3
  go_wp2_with fail
  refine H5.out.mono ?_
  rintro e w5 ⟨rfl, b5⟩
  have D5 := Lib.hid (D4.out.below b5)
  have E5 := Lib.hid (E4.out.below b5)
  have B5 := Lib.hid (below_trans B4.out b5)
  clear b5 H5 D4 E4 B4
  have h3 := tables_at 35 [.slice A1 t1.length c1, .slice A1 t1.length c1] [t1, t1] 2 40 40 R w5 rfl rfl (by decide) (fun i t ht => by
    rcases i with _ | _ | i
    · obtain rfl : t1 = t := by simpa using ht
      exact ⟨_, rfl, D5.out⟩
    · obtain rfl : t1 = t := by simpa using ht
      exact ⟨_, rfl, D5.out⟩
    · simp at ht) (all2 (HSZ.out _ M1.out) (HSZ.out _ M1.out)) (all2 (by rw [M1.out]; exact HTB.out.rls) (by rw [M1.out]; exact HTB.out.rls)) (fun S hS => tabs_twice HTB.out (by have h := hS; unfold plT at h; simpa only [List.map_cons, List.map_nil, M1.out] using h)) (by decide) (by decide)
  have H3 := Lib.hid h3
  clear h3
  go_wp2_with fail
  refine H3.out.mono ?_
  rintro e w6 ⟨v6, t6, rfl, b3, h3, m3, z3⟩
  have H4 := Lib.hid (told_at h3 m3 z3 (by decide))
  have b23 := below_trans (below_alloc1 w5 _) b3
  have D6 := Lib.hid (D5.out.below b23)
  have E6 := Lib.hid (E5.out.below b23)
  have B6 := Lib.hid (below_trans B5.out b23)
  clear b23 b3 h3 m3 z3 H3 D5 E5 B5
  go_wp2_with fail
  refine H4.out.mono ?_
  rintro e w7 ⟨v7, t7, rfl, b4, h4, m4, _⟩
  have D7 := Lib.hid (D6.out.below b4)
  have E7 := Lib.hid (E6.out.below b4)
  have B7 := Lib.hid (below_trans B6.out b4)
  have H5 := Lib.hid (rsame_any _ _ _ _ _ h4 E7.out (m4.trans N1.out.symm))
  clear b4 h4 m4 H4 D6 E6 B6
  go_wp2_with fail
  refine H5.out.mono ?_
  rintro e w8 ⟨rfl, b5⟩
  have D8 := Lib.hid (D7.out.below b5)
  have E8 := Lib.hid (E7.out.below b5)
  have B8 := Lib.hid (below_trans B7.out b5)
  clear b5 H5 D7 E7 B7
  have h3 := tables_at 35 [.slice none 0 0, .slice A1 t1.length c1, .slice none 0 0] [[], t1, []] 3 40 40 R w8 rfl rfl (by decide) (fun i t ht => by
    rcases i with _ | _ | _ | i
    · obtain rfl : [] = t := by simpa using ht
      exact ⟨_, rfl, tb_nil _⟩
    · obtain rfl : t1 = t := by simpa using ht
      exact ⟨_, rfl, D8.out⟩
    · obtain rfl : [] = t := by simpa using ht
      exact ⟨_, rfl, tb_nil _⟩
    · simp at ht) (all3 szd_nil (HSZ.out _ M1.out) szd_nil) (all3 List.Pairwise.nil (by rw [M1.out]; exact HTB.out.rls) List.Pairwise.nil) (fun S hS => tabs_none HTB.out (by have h := hS; unfold plT at h; simpa only [List.map_cons, List.map_nil, M1.out] using h)) (by decide) (by decide)
  have H3 := Lib.hid h3
  clear h3
  go_wp2_with fail
  refine H3.out.mono ?_
  rintro e w9 ⟨v9, t9, rfl, b3, h3, m3, z3⟩
  have H4 := Lib.hid (told_at h3 m3 z3 (by decide))
  have b23 := below_trans (below_alloc1 w8 _) b3
  have D9 := Lib.hid (D8.out.below b23)
  have E9 := Lib.hid (E8.out.below b23)
  have B9 := Lib.hid (below_trans B8.out b23)
  clear b23 b3 h3 m3 z3 H3 D8 E8 B8
  go_wp2_with fail
  refine H4.out.mono ?_
  rintro e w10 ⟨v10, t10, rfl, b4, h4, m4, _⟩
  have D10 := Lib.hid (D9.out.below b4)
  have E10 := Lib.hid (E9.out.below b4)
  have B10 := Lib.hid (below_trans B9.out b4)
  have H5 := Lib.hid (rsame_any _ _ _ _ _ h4 E10.out (m4.trans N1.out.symm))
  clear b4 h4 m4 H4 D9 E9 B9
  go_wp2_with fail
  refine H5.out.mono ?_
  rintro e w11 ⟨rfl, b5⟩
  have D11 := Lib.hid (D10.out.below b5)
  have E11 := Lib.hid (E10.out.below b5)
  have B11 := Lib.hid (below_trans B10.out b5)
  clear b5 H5 D10 E10 B10
  have h6 := tables_of (.slice none 0 0) [] w11 ⟨[], rfl, SlAt.none _ _, fun i t ht => by simp at ht⟩ (fun t ht => by cases ht) 0 0 0 (Nat.le_refl _) (fun t ht => by cases ht) (by decide) (by decide) (by decide)
  have H6 := Lib.hid h6
  clear h6
  go_wp2_with fail
  refine H6.out.mono ?_
  rintro e w12 ⟨v, t, rfl, b6, h6, hf⟩
  have ht0 := tabs_empty hf.tabs
  have ht0 : t = [] := by simpa using ht0
  subst ht0
  obtain ⟨A6, c6, rfl, _⟩ := h6.shape
  have B12 := Lib.hid (below_trans B11.out b6)
  clear b6 h6 hf H6
  go_wp2_with fail
  go_ret
  exact ⟨rfl, B12.out⟩
set_option maxHeartbeats 8000000 in
set_option maxRecDepth 100000 in
theorem mergeOne_lifted (os : Os) (started : os.Started) (H : Type) (enc : TypeId × Value → H) :
    ReturnsInHanded {} Tryd.checked os 5 .any (fun w args => (Rows.mergeOneSpec.pre enc Tryd.prog Tryd.f5 [] false w args ∧ laidMetH Tryd.prog [("unicode/utf8.acceptRanges", Rows.laid_unicode_utf8_acceptRanges), ("unicode/utf8.first", Rows.laid_unicode_utf8_first)] w) ∧ sizedMet enc Tryd.prog Tryd.f5 (OpenSpec.ofChange Rows.mergeOneSpec) false w args)
      (Rows.mergeOneSpec.post enc Tryd.prog Tryd.f5 false true false false) := by
  refine returnsInHanded_of_change_and (C := Tryd.checked) (X := fun w _ => laidMetH Tryd.prog [("unicode/utf8.acceptRanges", Rows.laid_unicode_utf8_acceptRanges), ("unicode/utf8.first", Rows.laid_unicode_utf8_first)] w) (fun _ _ _ hh h => h.of_heap hh) law_own started (by kernel_rfl) Tryd.func5
    (ChangeSpec.witness_shaped (enc := enc) (C := Tryd.checked) (os := os) (X := fun w _ => laidMetH Tryd.prog [("unicode/utf8.acceptRanges", Rows.laid_unicode_utf8_acceptRanges), ("unicode/utf8.first", Rows.laid_unicode_utf8_first)] w) false (World.laidAll Tryd.prog os [("unicode/utf8.acceptRanges", Rows.laid_unicode_utf8_acceptRanges), ("unicode/utf8.first", Rows.laid_unicode_utf8_first)]) #[.slice none 0 0] 8 (World.laidAll_os _ _ _)
      (World.shaped_of_ZipB (by kernel_rfl) (by kernel_rfl)) (by kernel_rfl) (by kernel_rfl) (by kernel_rfl) (door_met os _)) ?_
  intro W base args ds gs before hval0 hW _ _ hL _
  have hval : ∀ (j : Nat) t v, Tryd.f5.params[j]? = some t → args[j]? = some v → Value.okWide Tryd.prog W .any base t v := hval0
  have hW' := hW
  obtain ⟨p, q, hA0, hV, rfl, _, _⟩ := hW
  have hA : DataW.TrodAll enc Tryd.prog W 0 (fun _ => true) true Tryd.f5.params.toList args.toList ds p := hA0
  rw [Tryd.params5] at hA hval
  obtain ⟨v0, vs0, d0, ds0, p0, q0, hargs, rfl, rfl, h0, r0⟩ := trodAll_cons hA
  obtain ⟨rfl, rfl, rfl⟩ := trodAll_nil r0
  obtain rfl : args = #[v0] := by cases args; simp_all
  obtain ⟨rfl, rfl⟩ := trodVars_none hV
  obtain ⟨ts0, hts0⟩ := open_arg14 (hval 0 25 v0 rfl rfl) h0
  refine (mergeOne_walk0 v0 ts0 W hts0 (of_laid hL)).mono fun e W' ⟨he, hb⟩ => ?_
  subst he
  exact ⟨_, rfl, law_post law_laid (by intro t ht; rw [Tryd.params5] at ht; simp only [List.mem_cons, List.not_mem_nil, or_false] at ht; rcases ht with rfl <;> exact ⟨by kernel_rfl, of_decide_eq_true (by kernel_rfl)⟩) rfl Tryd.underlying4 rfl rfl hW' hb⟩

theorem mergeOne_holds : Rows.MergeOneSaid :=
  OpenClaim.holds_of_wide 5 Tryd.f5 rfl rfl rfl rfl rfl rfl rfl ⟨rfl, rfl, rfl, rfl, rfl⟩ rfl rfl rfl rfl rfl (by kernel_rfl) Tryd.func5 (by kernel_rfl)
    (of_decide_eq_true (by kernel_rfl)) (by unfold Func.isWrapper; first | (rw [if_pos (by decide +kernel)]; kernel_rfl) | (rw [if_neg (by decide +kernel)]; exact ⟨rfl, rfl⟩))
    (fun os started H enc _ => mergeOne_lifted os started H enc)

theorem mergeOne_card : Rows.MergeOneCardSaid :=
  Claim7.holds_tied_plain_at .later [] [.data, .pinned] true (true, "b5117781a2fc4f5bf1bebc4ed0b17e914806c6cca6626edf4671d5f934c5a5b4") true
    mergeOne_holds (fun _ h => by cases h) (by kernel_rfl) (fun _ h => by cases h) mergeOne_row_tie rfl ⟨rfl, rfl⟩ (by kernel_rfl) rfl
    (fun f fn hf hfn => by
      obtain rfl : f = 5 := Option.some.inj ((show Tryd.prog.funcNamed "barograph/barographlaw14.MergeOne" = some 5 by kernel_rfl).symm.trans hf) |>.symm
      obtain rfl : fn = Tryd.f5 := (Option.some.inj (Tryd.func5.symm.trans hfn)).symm
      exact ⟨by kernel_rfl, fun j t ht => by
        rw [Tryd.params5] at ht
        rcases j with _ | j
        · obtain rfl : t = 25 := by simpa using ht.symm
          exact (show Tryd.prog.wantsStandIn 25 = false by kernel_rfl)
        simp at ht⟩)
    (by kernel_rfl)

end Go.Proofs.YtfimalbdlepfnaaDoor
