/-
  Label: which of two sets comes first. No condition.
-/
import Derived.Test.YtpjicajifdandaaDoorLabL
import Derived.Test.YtpjicajifdandaaDoorLabX
import Derived.Test.YtpjicajifdandaaDoorTie
import Derived.Test.YtpjicajifdandaaDoorCards
namespace Go.Proofs.YtpjicajifdandaaDoor
open Go.RowKit Go.Bar Go.Bar.Leb Go.Bar.Lab Go.ChangeShapes Go.WideShapes Go.ChangeAt

set_option maxHeartbeats 4000000 in
set_option maxRecDepth 10000 in
theorem labelCompares_walk0 (v0 : Value) (l0 : List Pr) (v1 : Value) (l1 : List Pr) (W : World) (h0 : PsArg W v0 l0) (h1 : PsArg W v1 l1) (_ : True) :
    Calls Tryd.prog 4 #[v0, v1] W (RetBelow W (.bool true)) := by
  have E0 := Lib.hid (fun w v (h : PsAt w v l0) => few_any v l0 w h h0.2)
  have E1 := Lib.hid (fun w v (h : PsAt w v l1) => few_any v l1 w h h1.2)
  have H0 := Lib.hid h0.1
  have H1 := Lib.hid h1.1
  clear h0 h1
  obtain ⟨A, hA⟩ : ∃ A, A = few l0 := ⟨_, rfl⟩
  obtain ⟨B, hB⟩ : ∃ B, B = few l1 := ⟨_, rfl⟩
  have nA := few_len l0
  have nB := few_len l1
  rw [← hA] at E0 nA
  rw [← hB] at E1 nB
  clear hA hB
  obtain ⟨x, hx⟩ : ∃ x, x = cmpL A B := ⟨_, rfl⟩
  have CX := Lib.hid (fun v v' w (h : PsAt w v A) (h' : PsAt w v' B) => (show Calls Tryd.prog 25 #[v, v'] w (RetBelow w (.int .i64 x)) by rw [hx]; exact lcompare_any v v' A B w h h'))
  have RX := Lib.hid (fun v v' w (h : PsAt w v A) (h' : PsAt w v' B) => (show Calls Tryd.prog 26 #[v, v'] w (RetBelow w (.int .i64 x)) by rw [hx]; exact rcompare_any v v' A B w h h'))
  have TA := Lib.hid (fun v w (h : PsAt w v A) => told_any6 v A w h (by omega))
  have TB := Lib.hid (fun v w (h : PsAt w v B) => told_any6 v B w h (by omega))
  clear hx nA nB
  go_enter Tryd.func4, Tryd.ntmps4
  go_wp2_with fail
  refine (E0.out _ _ H0.out).mono ?_
  rintro e w1 ⟨a, rfl, n1⟩
  have N1 := Lib.hid n1
  clear n1
  go_wp2_with fail
  refine (E1.out _ _ (H1.out.below N1.out.below)).mono ?_
  rintro e w2 ⟨b, rfl, n2⟩
  have NA2 := Lib.hid (N1.out.then_below n2.below)
  have NB2 := Lib.hid (n2.after N1.out.below)
  clear n2 N1
  go_wp2_with fail
  refine (awake6_any _).mono ?_
  rintro e w3 ⟨rfl, hb⟩
  have NA3 := Lib.hid (NA2.out.then_below hb)
  have NB3 := Lib.hid (NB2.out.then_below hb)
  clear hb NA2 NB2
  go_wp2_with fail
  refine (CX.out _ _ _ NA3.out.slice NB3.out.slice).mono ?_
  rintro e w4 ⟨rfl, hb⟩
  have NA4 := Lib.hid (NA3.out.then_below hb)
  have NB4 := Lib.hid (NB3.out.then_below hb)
  clear hb NA3 NB3
  go_wp2_with fail
  refine (TA.out _ _ NA4.out.slice).mono ?_
  rintro e w5 ⟨c, rfl, hn⟩
  have NC5 := Lib.hid (hn.after NA4.out.below)
  have NB5 := Lib.hid (NB4.out.then_below hn.below)
  clear hn NA4 NB4
  go_wp2_with fail
  refine (TB.out _ _ NB5.out.slice).mono ?_
  rintro e w6 ⟨d, rfl, hn⟩
  have ND6 := Lib.hid (hn.after NB5.out.below)
  have NC6 := Lib.hid (NC5.out.then_below hn.below)
  clear hn NC5 NB5
  go_wp2_with fail
  refine (RX.out _ _ _ NC6.out.slice ND6.out.slice).mono ?_
  rintro e w7 ⟨rfl, hb⟩
  have ND7 := Lib.hid (ND6.out.then_below hb)
  clear hb
  have hxx : ((x : Int) == x) = true := by rw [beq_iff_eq]
  go_wp2_with fail
  go_ret
  exact ⟨rfl, ND7.out.below⟩

set_option maxHeartbeats 8000000 in
set_option maxRecDepth 100000 in
theorem labelCompares_lifted (os : Os) (started : os.Started) (H : Type) (enc : TypeId × Value → H) :
    ReturnsInHanded {} Tryd.checked os 4 .any (fun w args => (Rows.labelComparesSpec.pre enc Tryd.prog Tryd.f4 [] false w args ∧ laidMetH Tryd.prog [("unicode/utf8.acceptRanges", Rows.laid_unicode_utf8_acceptRanges), ("unicode/utf8.first", Rows.laid_unicode_utf8_first)] w) ∧ sizedMet enc Tryd.prog Tryd.f4 (OpenSpec.ofChange Rows.labelComparesSpec) false w args)
      (Rows.labelComparesSpec.post enc Tryd.prog Tryd.f4 false true false false) := by
  refine returnsInHanded_of_change_and (C := Tryd.checked) (X := fun w _ => laidMetH Tryd.prog [("unicode/utf8.acceptRanges", Rows.laid_unicode_utf8_acceptRanges), ("unicode/utf8.first", Rows.laid_unicode_utf8_first)] w) (fun _ _ _ hh h => h.of_heap hh) law_own started (by kernel_rfl) Tryd.func4
    (ChangeSpec.witness_shaped (enc := enc) (C := Tryd.checked) (os := os) (X := fun w _ => laidMetH Tryd.prog [("unicode/utf8.acceptRanges", Rows.laid_unicode_utf8_acceptRanges), ("unicode/utf8.first", Rows.laid_unicode_utf8_first)] w) false (World.laidAll Tryd.prog os [("unicode/utf8.acceptRanges", Rows.laid_unicode_utf8_acceptRanges), ("unicode/utf8.first", Rows.laid_unicode_utf8_first)]) #[.slice none 0 0, .slice none 0 0] 8 (World.laidAll_os _ _ _)
      (World.shaped_of_ZipB (by kernel_rfl) (by kernel_rfl)) (by kernel_rfl) (by kernel_rfl) (by kernel_rfl) (door_met os _)) ?_
  intro W base args ds gs before hval0 hW _ _ hL _
  have hval : ∀ (j : Nat) t v, Tryd.f4.params[j]? = some t → args[j]? = some v → Value.okWide Tryd.prog W .any base t v := hval0
  have hW' := hW
  obtain ⟨p, q, hA0, hV, rfl, _, _⟩ := hW
  have hA : DataW.TrodAll enc Tryd.prog W 0 (fun _ => true) true Tryd.f4.params.toList args.toList ds p := hA0
  rw [Tryd.params4] at hA hval
  obtain ⟨v0, vs0, d0, ds0, p0, q0, hargs, rfl, rfl, h0, r0⟩ := trodAll_cons hA
  obtain ⟨v1, vs1, d1, ds1, p1, q1, rfl, rfl, rfl, h1, r1⟩ := trodAll_cons r0
  obtain ⟨rfl, rfl, rfl⟩ := trodAll_nil r1
  obtain rfl : args = #[v0, v1] := by cases args; simp_all
  obtain ⟨rfl, rfl⟩ := trodVars_none hV
  obtain ⟨ts0, hts0⟩ := open_pairs (hval 0 22 v0 rfl rfl) h0
  obtain ⟨ts1, hts1⟩ := open_pairs (hval 1 22 v1 rfl rfl) h1
  refine (labelCompares_walk0 v0 ts0 v1 ts1 W hts0 hts1 (of_laid hL)).mono fun e W' ⟨he, hb⟩ => ?_
  subst he
  exact ⟨_, rfl, law_post law_laid (by intro t ht; rw [Tryd.params4] at ht; simp only [List.mem_cons, List.not_mem_nil, or_false] at ht; rcases ht with rfl | rfl <;> exact ⟨by kernel_rfl, of_decide_eq_true (by kernel_rfl)⟩) rfl Tryd.underlying4 rfl rfl hW' hb⟩

theorem labelCompares_holds : Rows.LabelComparesSaid :=
  OpenClaim.holds_of_wide 4 Tryd.f4 rfl rfl rfl rfl rfl rfl rfl ⟨rfl, rfl, rfl, rfl, rfl⟩ rfl rfl rfl rfl rfl (by kernel_rfl) Tryd.func4 (by kernel_rfl)
    (of_decide_eq_true (by kernel_rfl)) (by unfold Func.isWrapper; first | (rw [if_pos (by decide +kernel)]; kernel_rfl) | (rw [if_neg (by decide +kernel)]; exact ⟨rfl, rfl⟩))
    (fun os started H enc _ => labelCompares_lifted os started H enc)

theorem labelCompares_card : Rows.LabelComparesCardSaid :=
  Claim7.holds_tied_plain_at .later [] [.data, .pinned] true (true, "2d1145cbd28946932db5907653de828529f99ff6858137b0f836a60a01e5d84d") false
    labelCompares_holds (fun _ h => by cases h) (by kernel_rfl) (fun _ h => by cases h) labelCompares_row_tie rfl ⟨rfl, rfl⟩ (by kernel_rfl) rfl
    (fun f fn hf hfn => by
      obtain rfl : f = 4 := Option.some.inj ((show Tryd.prog.funcNamed "barograph/barographlaw06.LabelCompares" = some 4 by kernel_rfl).symm.trans hf) |>.symm
      obtain rfl : fn = Tryd.f4 := (Option.some.inj (Tryd.func4.symm.trans hfn)).symm
      exact ⟨by kernel_rfl, fun j t ht => by
        rw [Tryd.params4] at ht
        rcases j with _ | j
        · obtain rfl : t = 22 := by simpa using ht.symm
          exact (show Tryd.prog.wantsStandIn 22 = false by kernel_rfl)
        rcases j with _ | j
        · obtain rfl : t = 22 := by simpa using ht.symm
          exact (show Tryd.prog.wantsStandIn 22 = false by kernel_rfl)
        simp at ht⟩)
    (by kernel_rfl)

end Go.Proofs.YtpjicajifdandaaDoor
