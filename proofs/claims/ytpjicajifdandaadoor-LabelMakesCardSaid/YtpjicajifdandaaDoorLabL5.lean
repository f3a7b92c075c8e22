/-
  Label: any pairs make the set that they should. No condition.
-/
import Derived.Test.YtpjicajifdandaaDoorLabY
import Derived.Test.YtpjicajifdandaaDoorTie
import Derived.Test.YtpjicajifdandaaDoorCards
namespace Go.Proofs.YtpjicajifdandaaDoor
open Go.RowKit Go.Bar Go.Bar.Leb Go.Bar.Lab Go.ChangeShapes Go.WideShapes Go.ChangeAt
open Go.ChangeMaps (open_string shut_string)

set_option maxHeartbeats 4000000 in
set_option maxRecDepth 10000 in
theorem labelMakes_walk0 (v0 : Value) (l0 : List Pr) (n0 : ByteArray) (hn0 : n0.size ≤ maxLen) (W : World) (h0 : PsArg W v0 l0) (_ : True) :
    Calls Tryd.prog 3 #[v0, .string n0] W (RetBelow W (.bool true)) := by
  have E0 := Lib.hid (few_any v0 l0 W h0.1 h0.2)
  have c0 := fun w => cut_any n0 42 w (by omega) (by omega) hn0
  obtain ⟨nm, hnm⟩ : ∃ s, s = n0.data.toList.take (42 : Int).toNat := ⟨_, rfl⟩
  rw [← hnm] at c0
  have C0 := Lib.hid c0
  clear c0 hnm h0
  obtain ⟨A, hA⟩ : ∃ A, A = few l0 := ⟨_, rfl⟩
  have sA := few_sm l0
  have nA := few_len l0
  rw [← hA] at E0 sA nA
  clear hA
  have MK := Lib.hid (fun v w (h : PsAt w v A) => make_any v A w h (by omega) (fun p hp => by have := sA p hp; omega))
  have TA := Lib.hid (fun v w (h : PsAt w v A) => told_any6 v A w h (by omega))
  have SO := Lib.hid (fun v w (h : PsAt w v A) => rsorted_any v A w h (by omega))
  have RC := Lib.hid (fun v w (h : PsAt w v (sorted A)) => rcheck_any6 v (sorted A) w h (fun p hp => by have := sA p ((sorted_perm A).mem_iff.1 hp); omega))
  have RCA := Lib.hid (fun v w (h : PsAt w v A) => rcheck_any6 v A w h (fun p hp => by have := sA p hp; omega))
  have LC := Lib.hid (fun v w (m : List Pr) (hm : m.Perm A) (h : PsAt w v m) => lcheck_any v m w h (fun p hp => by have := sA p (hm.mem_iff.1 hp); omega))
  have LCA := Lib.hid (fun v w (h : PsAt w v A) => lcheck_any v A w h (fun p hp => by have := sA p hp; omega))
  have UA := Lib.hid (fun v w (h : PsAt w v A) => unlike_any v A w h)
  obtain ⟨gv, hgv⟩ : ∃ g, g = Lab.get A nm := ⟨_, rfl⟩
  obtain ⟨kv, hkv⟩ : ∃ g, g = key A := ⟨_, rfl⟩
  obtain ⟨tv, htv⟩ : ∃ g, g = Lab.text A := ⟨_, rfl⟩
  have G0 := Lib.hid (fun v w (h : PsAt w v A) => (show Calls Tryd.prog 19 #[v, .string (bs nm)] w (RetBelow w (.string (bs gv))) by rw [hgv]; exact pget_any v A nm w h))
  have G1 := Lib.hid (fun v w (h : PsAt w v A) => (show Calls Tryd.prog 20 #[v, .string (bs nm)] w (RetBelow w (.string (bs gv))) by rw [hgv]; exact rget_any v A nm w h))
  have K0 := Lib.hid (fun v w (h : PsAt w v A) => (show Calls Tryd.prog 21 #[v] w (RetBelow w (.string (bs kv))) by rw [hkv]; exact key_any v A w h (by omega) (fun p hp => by have := sA p hp; omega)))
  have K1 := Lib.hid (fun v w (h : PsAt w v A) => (show Calls Tryd.prog 22 #[v] w (RetBelow w (.string (bs kv))) by rw [hkv]; exact rkey_any v A w h (by omega) (fun p hp => by have := sA p hp; omega)))
  have X0 := Lib.hid (fun v w (h : PsAt w v A) => (show Calls Tryd.prog 23 #[v] w (RetBelow w (.string (bs tv))) by rw [htv]; exact text_any6 v A w h (by omega) (fun p hp => by have := sA p hp; omega)))
  have X1 := Lib.hid (fun v w (h : PsAt w v A) => (show Calls Tryd.prog 24 #[v] w (RetBelow w (.string (bs tv))) by rw [htv]; exact rtext_any v A w h (by omega) (fun p hp => by have := sA p hp; omega)))
  obtain ⟨eA, heA⟩ : ∃ e, errL A = e := ⟨_, rfl⟩
  obtain ⟨zA, hzA⟩ : ∃ e, chk A = e := ⟨_, rfl⟩
  have hez : (eA == 0) = zA := by
    rw [← heA, ← hzA]
    unfold errL
    cases chk A <;> rfl
  rw [hzA] at RCA
  rw [heA] at LCA
  clear hgv hkv htv heA hzA sA nA
  go_enter Tryd.func3, Tryd.ntmps3
  go_wp2_with fail
  refine E0.out.mono ?_
  rintro e w1 ⟨a, rfl, n1⟩
  have NA1 := Lib.hid n1
  clear n1 E0
  go_wp2_with fail
  refine (C0.out _).mono ?_
  rintro e w' ⟨rfl, rfl⟩
  go_wp2_with fail
  refine (MK.out _ _ NA1.out.slice).mono ?_
  rintro e w2 ⟨b, m, rfl, hm, hasc, n2⟩
  have NA2 := Lib.hid (NA1.out.then_below n2.below)
  have NB2 := Lib.hid (n2.after NA1.out.below)
  have HM := Lib.hid hm
  have HCK := Lib.hid (chk_any hm hasc)
  have HSO := Lib.hid (fun hu => sorted_of hm hasc hu)
  clear n2 NA1 hm hasc
  go_wp2_with fail
  refine (TA.out _ _ NA2.out.slice).mono ?_
  rintro e w3 ⟨c, rfl, n3⟩
  have NA3 := Lib.hid (NA2.out.then_below n3.below)
  have NB3 := Lib.hid (NB2.out.then_below n3.below)
  have NC3 := Lib.hid (n3.after NA2.out.below)
  clear n3 NA2 NB2
  go_wp2_with fail
  refine (SO.out _ _ NC3.out.slice).mono ?_
  rintro e w4 ⟨d, rfl, n4⟩
  have NA4 := Lib.hid (NA3.out.then_below n4.below)
  have NB4 := Lib.hid (NB3.out.then_below n4.below)
  have ND4 := Lib.hid (n4.after NA3.out.below)
  clear n4 NA3 NB3 NC3
  go_wp2_with fail
  refine (awake6_any _).mono ?_
  rintro e w5 ⟨rfl, hb⟩
  have NA5 := Lib.hid (NA4.out.then_below hb)
  have NB5 := Lib.hid (NB4.out.then_below hb)
  have ND5 := Lib.hid (ND4.out.then_below hb)
  clear hb NA4 NB4 ND4
  obtain ⟨em, hem⟩ : ∃ e, errL m = e := ⟨_, rfl⟩
  obtain ⟨zm, hzm⟩ : ∃ e, chk (sorted A) = e := ⟨_, rfl⟩
  have hcase : em = 0 ∧ zm = true ∨ em = 12 ∧ zm = false := by
    rw [← hem, ← hzm, ← HCK.out]
    unfold errL
    cases chk m <;> simp
  rw [hzm] at RC
  have LCM := Lib.hid (fun v w (h : PsAt w v m) => (show Calls Tryd.prog 16 #[v] w _ by have := LC.out v w m HM.out h; rw [hem] at this; exact this))
  rw [hem]
  clear HCK hem hzm
  rcases hcase with ⟨rfl, rfl⟩ | ⟨rfl, rfl⟩
  all_goals
    go_wp2_with fail
    refine (RC.out _ _ ND5.out.slice).mono ?_
    rintro e w6 ⟨rfl, hb⟩
    have NA6 := Lib.hid (NA5.out.then_below hb)
    have NB6 := Lib.hid (NB5.out.then_below hb)
    have ND6 := Lib.hid (ND5.out.then_below hb)
    clear hb NA5 NB5 ND5
    go_wp2_with fail
    refine (LCM.out _ _ NB6.out.slice).mono ?_
    rintro e w7 ⟨rfl, hb⟩
    have NA7 := Lib.hid (NA6.out.then_below hb)
    have NB7 := Lib.hid (NB6.out.then_below hb)
    have ND7 := Lib.hid (ND6.out.then_below hb)
    clear hb NA6 NB6 ND6
    go_wp2_with fail
    have hu := UA.out _ _ NA7.out.slice
    by_cases hun : Unlike A
    rw [decide_eq_true hun] at hu
    have HU := Lib.hid hu
    obtain rfl : m = sorted A := HSO.out hun
    clear hu hun
    refine HU.out.mono ?_
    rintro e w8 ⟨rfl, q, rfl⟩
    have NA8 := Lib.hid (NA7.out.drewN q)
    have NB8 := Lib.hid (NB7.out.drewN q)
    have ND8 := Lib.hid (ND7.out.drewN q)
    go_wp2_with fail
    refine (is_any6 _ _ _ _ NB8.out.slice ND8.out.slice).mono ?_
    rintro e w9 ⟨rfl, hb⟩
    have NA9 := Lib.hid (NA8.out.then_below hb)
    clear hb
    go_wp2_with fail
    rotate_left
    rw [decide_eq_false hun] at hu
    have HU := Lib.hid hu
    clear hu hun
    refine HU.out.mono ?_
    rintro e w8 ⟨rfl, q, rfl⟩
    have NA9 := Lib.hid (NA7.out.drewN q)
    go_wp2_with fail
  all_goals
    refine (G0.out _ _ NA9.out.slice).mono ?_
    rintro e wa ⟨rfl, hb⟩
    have NA10 := Lib.hid (NA9.out.then_below hb)
    clear hb
    go_wp2_with fail
    refine (TA.out _ _ NA10.out.slice).mono ?_
    rintro e wb ⟨c1, rfl, n3⟩
    have NA11 := Lib.hid (NA10.out.then_below n3.below)
    have NC11 := Lib.hid (n3.after NA10.out.below)
    clear n3
    go_wp2_with fail
    refine (G1.out _ _ NC11.out.slice).mono ?_
    rintro e wc ⟨rfl, hb⟩
    have NA12 := Lib.hid (NA11.out.then_below hb)
    clear hb
    go_wp2_with fail
    refine (K0.out _ _ NA12.out.slice).mono ?_
    rintro e wd ⟨rfl, hb⟩
    have NA13 := Lib.hid (NA12.out.then_below hb)
    clear hb
    go_wp2_with fail
    refine (TA.out _ _ NA13.out.slice).mono ?_
    rintro e we ⟨c2, rfl, n3⟩
    have NA14 := Lib.hid (NA13.out.then_below n3.below)
    have NC14 := Lib.hid (n3.after NA13.out.below)
    clear n3
    go_wp2_with fail
    refine (K1.out _ _ NC14.out.slice).mono ?_
    rintro e wf ⟨rfl, hb⟩
    have NA15 := Lib.hid (NA14.out.then_below hb)
    clear hb
    go_wp2_with fail
    refine (X0.out _ _ NA15.out.slice).mono ?_
    rintro e wg ⟨rfl, hb⟩
    have NA16 := Lib.hid (NA15.out.then_below hb)
    clear hb
    go_wp2_with fail
    refine (TA.out _ _ NA16.out.slice).mono ?_
    rintro e wh ⟨c3, rfl, n3⟩
    have NA17 := Lib.hid (NA16.out.then_below n3.below)
    have NC17 := Lib.hid (n3.after NA16.out.below)
    clear n3
    go_wp2_with fail
    refine (X1.out _ _ NC17.out.slice).mono ?_
    rintro e wi ⟨rfl, hb⟩
    have NA18 := Lib.hid (NA17.out.then_below hb)
    clear hb
    go_wp2_with fail
    refine (LCA.out _ _ NA18.out.slice).mono ?_
    rintro e wj ⟨rfl, hb⟩
    have NA19 := Lib.hid (NA18.out.then_below hb)
    clear hb
    go_wp2_with fail
    refine (TA.out _ _ NA19.out.slice).mono ?_
    rintro e wk ⟨c4, rfl, n3⟩
    have NC20 := Lib.hid (n3.after NA19.out.below)
    clear n3
    go_wp2_with fail
    refine (RCA.out _ _ NC20.out.slice).mono ?_
    rintro e wl ⟨rfl, hb⟩
    have NC21 := Lib.hid (NC20.out.then_below hb)
    clear hb
    go_wp2_with fail
    go_ret
    exact ⟨rfl, NC21.out.below⟩

set_option maxHeartbeats 8000000 in
set_option maxRecDepth 100000 in
theorem labelMakes_lifted (os : Os) (started : os.Started) (H : Type) (enc : TypeId × Value → H) :
    ReturnsInHanded {} Tryd.checked os 3 .any (fun w args => (Rows.labelMakesSpec.pre enc Tryd.prog Tryd.f3 [] false w args ∧ laidMetH Tryd.prog [("unicode/utf8.acceptRanges", Rows.laid_unicode_utf8_acceptRanges), ("unicode/utf8.first", Rows.laid_unicode_utf8_first)] w) ∧ sizedMet enc Tryd.prog Tryd.f3 (OpenSpec.ofChange Rows.labelMakesSpec) false w args)
      (Rows.labelMakesSpec.post enc Tryd.prog Tryd.f3 false true false false) := by
  refine returnsInHanded_of_change_and (C := Tryd.checked) (X := fun w _ => laidMetH Tryd.prog [("unicode/utf8.acceptRanges", Rows.laid_unicode_utf8_acceptRanges), ("unicode/utf8.first", Rows.laid_unicode_utf8_first)] w) (fun _ _ _ hh h => h.of_heap hh) law_own started (by kernel_rfl) Tryd.func3
    (ChangeSpec.witness_shaped (enc := enc) (C := Tryd.checked) (os := os) (X := fun w _ => laidMetH Tryd.prog [("unicode/utf8.acceptRanges", Rows.laid_unicode_utf8_acceptRanges), ("unicode/utf8.first", Rows.laid_unicode_utf8_first)] w) false (World.laidAll Tryd.prog os [("unicode/utf8.acceptRanges", Rows.laid_unicode_utf8_acceptRanges), ("unicode/utf8.first", Rows.laid_unicode_utf8_first)]) #[.slice none 0 0, .string ByteArray.empty] 8 (World.laidAll_os _ _ _)
      (World.shaped_of_ZipB (by kernel_rfl) (by kernel_rfl)) (by kernel_rfl) (by kernel_rfl) (by kernel_rfl) (door_met os _)) ?_
  intro W base args ds gs before hval0 hW _ _ hL _
  have hval : ∀ (j : Nat) t v, Tryd.f3.params[j]? = some t → args[j]? = some v → Value.okWide Tryd.prog W .any base t v := hval0
  have hW' := hW
  obtain ⟨p, q, hA0, hV, rfl, _, _⟩ := hW
  have hA : DataW.TrodAll enc Tryd.prog W 0 (fun _ => true) true Tryd.f3.params.toList args.toList ds p := hA0
  rw [Tryd.params3] at hA hval
  obtain ⟨v0, vs0, d0, ds0, p0, q0, hargs, rfl, rfl, h0, r0⟩ := trodAll_cons hA
  obtain ⟨v1, vs1, d1, ds1, p1, q1, rfl, rfl, rfl, h1, r1⟩ := trodAll_cons r0
  obtain ⟨rfl, rfl, rfl⟩ := trodAll_nil r1
  obtain rfl : args = #[v0, v1] := by cases args; simp_all
  obtain ⟨rfl, rfl⟩ := trodVars_none hV
  obtain ⟨a1, rfl, rfl, rfl, w1⟩ := open_string Tryd.underlying9 (hval 1 9 v1 rfl rfl) h1
  obtain ⟨ts0, hts0⟩ := open_pairs (hval 0 22 v0 rfl rfl) h0
  refine (labelMakes_walk0 v0 ts0 a1 w1 W hts0 (of_laid hL)).mono fun e W' ⟨he, hb⟩ => ?_
  subst he
  exact ⟨_, rfl, law_post law_laid (by intro t ht; rw [Tryd.params3] at ht; simp only [List.mem_cons, List.not_mem_nil, or_false] at ht; rcases ht with rfl | rfl <;> exact ⟨by kernel_rfl, of_decide_eq_true (by kernel_rfl)⟩) rfl Tryd.underlying4 rfl rfl hW' hb⟩

theorem labelMakes_holds : Rows.LabelMakesSaid :=
  OpenClaim.holds_of_wide 3 Tryd.f3 rfl rfl rfl rfl rfl rfl rfl ⟨rfl, rfl, rfl, rfl, rfl⟩ rfl rfl rfl rfl rfl (by kernel_rfl) Tryd.func3 (by kernel_rfl)
    (of_decide_eq_true (by kernel_rfl)) (by unfold Func.isWrapper; first | (rw [if_pos (by decide +kernel)]; kernel_rfl) | (rw [if_neg (by decide +kernel)]; exact ⟨rfl, rfl⟩))
    (fun os started H enc _ => labelMakes_lifted os started H enc)

theorem labelMakes_card : Rows.LabelMakesCardSaid :=
  Claim7.holds_tied_plain_at .later [] [.data, .pinned] true (true, "2d1145cbd28946932db5907653de828529f99ff6858137b0f836a60a01e5d84d") false
    labelMakes_holds (fun _ h => by cases h) (by kernel_rfl) (fun _ h => by cases h) labelMakes_row_tie rfl ⟨rfl, rfl⟩ (by kernel_rfl) rfl
    (fun f fn hf hfn => by
      obtain rfl : f = 3 := Option.some.inj ((show Tryd.prog.funcNamed "barograph/barographlaw06.LabelMakes" = some 3 by kernel_rfl).symm.trans hf) |>.symm
      obtain rfl : fn = Tryd.f3 := (Option.some.inj (Tryd.func3.symm.trans hfn)).symm
      exact ⟨by kernel_rfl, fun j t ht => by
        rw [Tryd.params3] at ht
        rcases j with _ | j
        · obtain rfl : t = 22 := by simpa using ht.symm
          exact (show Tryd.prog.wantsStandIn 22 = false by kernel_rfl)
        rcases j with _ | j
        · obtain rfl : t = 9 := by simpa using ht.symm
          exact (show Tryd.prog.wantsStandIn 9 = false by kernel_rfl)
        simp at ht⟩)
    (by kernel_rfl)

end Go.Proofs.YtpjicajifdandaaDoor
