/-
  Label.Compare is an order: of any three sets of pairs. No condition.
-/
import Derived.Test.YtpjicajifdandaaDoorLabL
import Derived.Test.YtpjicajifdandaaDoorTie
import Derived.Test.YtpjicajifdandaaDoorCards
namespace Go.Proofs.YtpjicajifdandaaDoor
open Go.RowKit Go.Bar Go.Bar.Leb Go.Bar.Lab Go.ChangeShapes Go.WideShapes Go.ChangeAt

/-- what the walk is asked of three numbers -/
def OrdIn (x y z : Int) (s : Bool) : Prop := (x = -1 ∧ s = false ∨ x = 0 ∧ s = true ∨ x = 1 ∧ s = false) ∧ (x ≤ 0 → y ≤ 0 → z ≤ 0)

set_option maxHeartbeats 4000000 in
set_option maxRecDepth 10000 in
theorem labelOrder_walk0 (v0 : Value) (l0 : List Pr) (v1 : Value) (l1 : List Pr) (v2 : Value) (l2 : List Pr) (W : World) (h0 : PsArg W v0 l0) (h1 : PsArg W v1 l1) (h2 : PsArg W v2 l2) (_ : True) :
    Calls Tryd.prog 6 #[v0, v1, v2] W (RetBelow W (.bool true)) := by
  have e0 := fun w v (h : PsAt w v l0) => few_any v l0 w h h0.2
  have e1 := fun w v (h : PsAt w v l1) => few_any v l1 w h h1.2
  have e2 := fun w v (h : PsAt w v l2) => few_any v l2 w h h2.2
  have E0 := Lib.hid e0
  have E1 := Lib.hid e1
  have E2 := Lib.hid e2
  have H0 := Lib.hid h0.1
  have H1 := Lib.hid h1.1
  have H2 := Lib.hid h2.1
  clear e0 e1 e2 h0 h1 h2
  obtain ⟨A, hA⟩ : ∃ A, A = few l0 := ⟨_, rfl⟩
  obtain ⟨B, hB⟩ : ∃ B, B = few l1 := ⟨_, rfl⟩
  obtain ⟨C, hC⟩ : ∃ C, C = few l2 := ⟨_, rfl⟩
  have sA := few_sm l0
  have sB := few_sm l1
  have nA := few_len l0
  have nB := few_len l1
  rw [← hA] at E0 sA nA
  rw [← hB] at E1 sB nB
  rw [← hC] at E2
  clear hA hB hC
  obtain ⟨x, hx⟩ : ∃ x, x = cmpL A B := ⟨_, rfl⟩
  obtain ⟨y, hy⟩ : ∃ y, y = cmpL B C := ⟨_, rfl⟩
  obtain ⟨z, hz⟩ : ∃ z, z = cmpL A C := ⟨_, rfl⟩
  obtain ⟨KA, hKA⟩ : ∃ K, K = key A := ⟨_, rfl⟩
  obtain ⟨KB, hKB⟩ : ∃ K, K = key B := ⟨_, rfl⟩
  have hord : OrdIn x y z (KA == KB) := by
    have hk : KA = KB ↔ A = B := by rw [hKA, hKB]; exact key_inj (by omega) (by omega) (fun p hp => by have := sA p hp; omega) (fun p hp => by have := sB p hp; omega)
    have h0 : x = 0 ↔ A = B := by rw [hx]; exact cmpL_zero
    refine ⟨?_, fun a b => by rw [hx] at a; rw [hy] at b; rw [hz]; exact cmpL_trans a b⟩
    have h3 := cmpL_three A B
    rw [← hx] at h3
    rcases h3 with h3 | h3 | h3
    · exact .inl ⟨h3, by rw [beq_eq_false_iff_ne]; intro h; have := h0.2 (hk.1 h); omega⟩
    · exact .inr (.inl ⟨h3, by rw [beq_iff_eq]; exact hk.2 (h0.1 h3)⟩)
    · exact .inr (.inr ⟨h3, by rw [beq_eq_false_iff_ne]; intro h; have := h0.2 (hk.1 h); omega⟩)
  have CX := Lib.hid (fun v v' w (h : PsAt w v A) (h' : PsAt w v' B) => (show Calls Tryd.prog 25 #[v, v'] w (RetBelow w (.int .i64 x)) by rw [hx]; exact lcompare_any v v' A B w h h'))
  have CY := Lib.hid (fun v v' w (h : PsAt w v B) (h' : PsAt w v' C) => (show Calls Tryd.prog 25 #[v, v'] w (RetBelow w (.int .i64 y)) by rw [hy]; exact lcompare_any v v' B C w h h'))
  have CZ := Lib.hid (fun v v' w (h : PsAt w v A) (h' : PsAt w v' C) => (show Calls Tryd.prog 25 #[v, v'] w (RetBelow w (.int .i64 z)) by rw [hz]; exact lcompare_any v v' A C w h h'))
  have CR := Lib.hid (fun v v' w (h : PsAt w v B) (h' : PsAt w v' A) => (show Calls Tryd.prog 25 #[v, v'] w (RetBelow w (.int .i64 (-x))) by rw [hx, ← cmpL_neg]; exact lcompare_any v v' B A w h h'))
  have CS := Lib.hid (fun v v' w (h : PsAt w v A) (h' : PsAt w v' A) => (show Calls Tryd.prog 25 #[v, v'] w (RetBelow w (.int .i64 0)) by
    have := lcompare_any v v' A A w h h'
    rwa [cmpL_zero.2 rfl] at this))
  have KKA := Lib.hid (fun v w (h : PsAt w v A) => (show Calls Tryd.prog 21 #[v] w (RetBelow w (.string (bs KA))) by rw [hKA]; exact key_any v A w h (by omega) (fun p hp => by have := sA p hp; omega)))
  have KKB := Lib.hid (fun v w (h : PsAt w v B) => (show Calls Tryd.prog 21 #[v] w (RetBelow w (.string (bs KB))) by rw [hKB]; exact key_any v B w h (by omega) (fun p hp => by have := sB p hp; omega)))
  clear hx hy hz hKA hKB sA sB nA nB
  have hcase : ∃ s, (KA == KB) = s ∧ ((x = -1 ∧ s = false ∧ y ≤ 0 ∧ z ≤ 0) ∨ (x = -1 ∧ s = false ∧ 0 < y) ∨ (x = 0 ∧ s = true ∧ y ≤ 0 ∧ z ≤ 0) ∨ (x = 0 ∧ s = true ∧ 0 < y) ∨ (x = 1 ∧ s = false)) := by
    obtain ⟨h1, h2⟩ := hord
    refine ⟨_, rfl, ?_⟩
    rcases h1 with ⟨a, b⟩ | ⟨a, b⟩ | ⟨a, b⟩
    · by_cases hy : y ≤ 0
      · exact .inl ⟨a, b, hy, h2 (by omega) hy⟩
      · exact .inr (.inl ⟨a, b, by omega⟩)
    · by_cases hy : y ≤ 0
      · exact .inr (.inr (.inl ⟨a, b, hy, h2 (by omega) hy⟩))
      · exact .inr (.inr (.inr (.inl ⟨a, b, by omega⟩)))
    · exact .inr (.inr (.inr (.inr ⟨a, b⟩)))
  clear hord
  obtain ⟨s, hs, hcase⟩ := hcase
  go_enter Tryd.func6, Tryd.ntmps6
  go_wp2_with fail
  refine (E0.out _ _ H0.out).mono ?_
  rintro e w1 ⟨a, rfl, n1⟩
  have N1 := Lib.hid n1
  clear n1
  go_wp2_with fail
  refine (E1.out _ _ (H1.out.below N1.out.below)).mono ?_
  rintro e w2 ⟨b, rfl, n2⟩
  have NA2 := Lib.hid (N1.out.then_below n2.below)
  have NB2 := Lib.hid (n2.after N1.out.below)
  clear n2 N1
  go_wp2_with fail
  refine (E2.out _ _ (H2.out.below NA2.out.below)).mono ?_
  rintro e w3 ⟨c, rfl, n3⟩
  have NA3 := Lib.hid (NA2.out.then_below n3.below)
  have NB3 := Lib.hid (NB2.out.then_below n3.below)
  have NC3 := Lib.hid (n3.after NA2.out.below)
  clear n3 NA2 NB2
  go_wp2_with fail
  refine (CX.out _ _ _ NA3.out.slice NB3.out.slice).mono ?_
  rintro e w4 ⟨rfl, hb⟩
  have NA4 := Lib.hid (NA3.out.then_below hb)
  have NB4 := Lib.hid (NB3.out.then_below hb)
  have NC4 := Lib.hid (NC3.out.then_below hb)
  clear hb NA3 NB3 NC3
  go_wp2_with fail
  refine (CY.out _ _ _ NB4.out.slice NC4.out.slice).mono ?_
  rintro e w5 ⟨rfl, hb⟩
  have NA5 := Lib.hid (NA4.out.then_below hb)
  have NB5 := Lib.hid (NB4.out.then_below hb)
  have NC5 := Lib.hid (NC4.out.then_below hb)
  clear hb NA4 NB4 NC4
  go_wp2_with fail
  refine (CZ.out _ _ _ NA5.out.slice NC5.out.slice).mono ?_
  rintro e w6 ⟨rfl, hb⟩
  have NA6 := Lib.hid (NA5.out.then_below hb)
  have NB6 := Lib.hid (NB5.out.then_below hb)
  clear hb NA5 NB5 NC5
  go_wp2_with fail
  refine (awake6_any _).mono ?_
  rintro e w7 ⟨rfl, hb⟩
  have NA7 := Lib.hid (NA6.out.then_below hb)
  have NB7 := Lib.hid (NB6.out.then_below hb)
  clear hb NA6 NB6
  go_wp2_with fail
  refine (CR.out _ _ _ NB7.out.slice NA7.out.slice).mono ?_
  rintro e w8 ⟨rfl, hb⟩
  have NA8 := Lib.hid (NA7.out.then_below hb)
  have NB8 := Lib.hid (NB7.out.then_below hb)
  clear hb NA7 NB7 CX CY CZ CR E0 E1 E2 H0 H1 H2
  have fin : ∀ (a b : Value) (K : Value), True := fun _ _ _ => trivial
  clear fin
  rcases hcase with ⟨rfl, rfl, k1, k2⟩ | ⟨rfl, rfl, k1⟩ | ⟨rfl, rfl, k1, k2⟩ | ⟨rfl, rfl, k1⟩ | ⟨rfl, rfl⟩
  all_goals
    go_wp2_with fail
    refine (CS.out _ _ _ NA8.out.slice NA8.out.slice).mono ?_
    rintro e w9 ⟨rfl, hb⟩
    have NA9 := Lib.hid (NA8.out.then_below hb)
    have NB9 := Lib.hid (NB8.out.then_below hb)
    clear hb
    go_wp2_with fail
    refine (KKA.out _ _ NA9.out.slice).mono ?_
    rintro e wa ⟨rfl, hb⟩
    have NB10 := Lib.hid (NB9.out.then_below hb)
    clear hb
    go_wp2_with fail
    refine (KKB.out _ _ NB10.out.slice).mono ?_
    rintro e wb ⟨rfl, hb⟩
    have NB11 := Lib.hid (NB10.out.then_below hb)
    clear hb
    go_wp2_with fail
    go_ret
    exact ⟨rfl, NB11.out.below⟩

set_option maxHeartbeats 8000000 in
set_option maxRecDepth 100000 in
theorem labelOrder_lifted (os : Os) (started : os.Started) (H : Type) (enc : TypeId × Value → H) :
    ReturnsInHanded {} Tryd.checked os 6 .any (fun w args => (Rows.labelOrderSpec.pre enc Tryd.prog Tryd.f6 [] false w args ∧ laidMetH Tryd.prog [("unicode/utf8.acceptRanges", Rows.laid_unicode_utf8_acceptRanges), ("unicode/utf8.first", Rows.laid_unicode_utf8_first)] w) ∧ sizedMet enc Tryd.prog Tryd.f6 (OpenSpec.ofChange Rows.labelOrderSpec) false w args)
      (Rows.labelOrderSpec.post enc Tryd.prog Tryd.f6 false true false false) := by
  refine returnsInHanded_of_change_and (C := Tryd.checked) (X := fun w _ => laidMetH Tryd.prog [("unicode/utf8.acceptRanges", Rows.laid_unicode_utf8_acceptRanges), ("unicode/utf8.first", Rows.laid_unicode_utf8_first)] w) (fun _ _ _ hh h => h.of_heap hh) law_own started (by kernel_rfl) Tryd.func6
    (ChangeSpec.witness_shaped (enc := enc) (C := Tryd.checked) (os := os) (X := fun w _ => laidMetH Tryd.prog [("unicode/utf8.acceptRanges", Rows.laid_unicode_utf8_acceptRanges), ("unicode/utf8.first", Rows.laid_unicode_utf8_first)] w) false (World.laidAll Tryd.prog os [("unicode/utf8.acceptRanges", Rows.laid_unicode_utf8_acceptRanges), ("unicode/utf8.first", Rows.laid_unicode_utf8_first)]) #[.slice none 0 0, .slice none 0 0, .slice none 0 0] 8 (World.laidAll_os _ _ _)
      (World.shaped_of_ZipB (by kernel_rfl) (by kernel_rfl)) (by kernel_rfl) (by kernel_rfl) (by kernel_rfl) (door_met os _)) ?_
  intro W base args ds gs before hval0 hW _ _ hL _
  have hval : ∀ (j : Nat) t v, Tryd.f6.params[j]? = some t → args[j]? = some v → Value.okWide Tryd.prog W .any base t v := hval0
  have hW' := hW
  obtain ⟨p, q, hA0, hV, rfl, _, _⟩ := hW
  have hA : DataW.TrodAll enc Tryd.prog W 0 (fun _ => true) true Tryd.f6.params.toList args.toList ds p := hA0
  rw [Tryd.params6] at hA hval
  obtain ⟨v0, vs0, d0, ds0, p0, q0, hargs, rfl, rfl, h0, r0⟩ := trodAll_cons hA
  obtain ⟨v1, vs1, d1, ds1, p1, q1, rfl, rfl, rfl, h1, r1⟩ := trodAll_cons r0
  obtain ⟨v2, vs2, d2, ds2, p2, q2, rfl, rfl, rfl, h2, r2⟩ := trodAll_cons r1
  obtain ⟨rfl, rfl, rfl⟩ := trodAll_nil r2
  obtain rfl : args = #[v0, v1, v2] := by cases args; simp_all
  obtain ⟨rfl, rfl⟩ := trodVars_none hV
  obtain ⟨ts0, hts0⟩ := open_pairs (hval 0 22 v0 rfl rfl) h0
  obtain ⟨ts1, hts1⟩ := open_pairs (hval 1 22 v1 rfl rfl) h1
  obtain ⟨ts2, hts2⟩ := open_pairs (hval 2 22 v2 rfl rfl) h2
  refine (labelOrder_walk0 v0 ts0 v1 ts1 v2 ts2 W hts0 hts1 hts2 (of_laid hL)).mono fun e W' ⟨he, hb⟩ => ?_
  subst he
  exact ⟨_, rfl, law_post law_laid (by intro t ht; rw [Tryd.params6] at ht; simp only [List.mem_cons, List.not_mem_nil, or_false] at ht; rcases ht with rfl | rfl | rfl <;> exact ⟨by kernel_rfl, of_decide_eq_true (by kernel_rfl)⟩) rfl Tryd.underlying4 rfl rfl hW' hb⟩

theorem labelOrder_holds : Rows.LabelOrderSaid :=
  OpenClaim.holds_of_wide 6 Tryd.f6 rfl rfl rfl rfl rfl rfl rfl ⟨rfl, rfl, rfl, rfl, rfl⟩ rfl rfl rfl rfl rfl (by kernel_rfl) Tryd.func6 (by kernel_rfl)
    (of_decide_eq_true (by kernel_rfl)) (by unfold Func.isWrapper; first | (rw [if_pos (by decide +kernel)]; kernel_rfl) | (rw [if_neg (by decide +kernel)]; exact ⟨rfl, rfl⟩))
    (fun os started H enc _ => labelOrder_lifted os started H enc)

theorem labelOrder_card : Rows.LabelOrderCardSaid :=
  Claim7.holds_tied_plain_at .later [] [.data, .pinned] true (true, "2d1145cbd28946932db5907653de828529f99ff6858137b0f836a60a01e5d84d") false
    labelOrder_holds (fun _ h => by cases h) (by kernel_rfl) (fun _ h => by cases h) labelOrder_row_tie rfl ⟨rfl, rfl⟩ (by kernel_rfl) rfl
    (fun f fn hf hfn => by
      obtain rfl : f = 6 := Option.some.inj ((show Tryd.prog.funcNamed "barograph/barographlaw06.LabelOrder" = some 6 by kernel_rfl).symm.trans hf) |>.symm
      obtain rfl : fn = Tryd.f6 := (Option.some.inj (Tryd.func6.symm.trans hfn)).symm
      exact ⟨by kernel_rfl, fun j t ht => by
        rw [Tryd.params6] at ht
        rcases j with _ | j
        · obtain rfl : t = 22 := by simpa using ht.symm
          exact (show Tryd.prog.wantsStandIn 22 = false by kernel_rfl)
        rcases j with _ | j
        · obtain rfl : t = 22 := by simpa using ht.symm
          exact (show Tryd.prog.wantsStandIn 22 = false by kernel_rfl)
        rcases j with _ | j
        · obtain rfl : t = 22 := by simpa using ht.symm
          exact (show Tryd.prog.wantsStandIn 22 = false by kernel_rfl)
        simp at ht⟩)
    (by kernel_rfl)

end Go.Proofs.YtpjicajifdandaaDoor
