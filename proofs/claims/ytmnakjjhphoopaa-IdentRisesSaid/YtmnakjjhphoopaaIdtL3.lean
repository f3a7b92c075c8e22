/-
  Layer 8: IdentRises.
-/
import Derived.Test.YtmnakjjhphoopaaIdtL
import Derived.Test.YtmnakjjhphoopaaRows
namespace Go.Proofs.Ytmnakjjhphoopaa
open Go.RowKit Go.Bar Go.Bar.Idt Go.ChangeShapes Go.WideShapes Go.ChangeAt
open Go.ChangeMaps (open_string shut_string)

theorem rises_of (a b c d : Int) (ha : okT a) (hb : okT b) (hc : okT c) (hd : okT d) :
    Op.bytesLess (mk a.toNat b.toNat) (mk c.toNat d.toNat) = (decide (a < c) || (a == c && decide (b < d))) ∧ (mk a.toNat b.toNat == mk c.toNat d.toNat) = (a == c && b == d) := by
  obtain ⟨a, rfl⟩ := Int.eq_ofNat_of_zero_le ha.1
  obtain ⟨b, rfl⟩ := Int.eq_ofNat_of_zero_le hb.1
  obtain ⟨c, rfl⟩ := Int.eq_ofNat_of_zero_le hc.1
  obtain ⟨d, rfl⟩ := Int.eq_ofNat_of_zero_le hd.1
  have ha := ha.2
  have hb := hb.2
  have hc := hc.2
  have hd := hd.2
  simp only [Int.toNat_natCast]
  rw [less_mk a b c d (by omega) (by omega) (by omega) (by omega), mk_inj a b c d (by omega) (by omega) (by omega) (by omega)]
  constructor
  · rw [Bool.eq_iff_iff]; simp only [Bool.or_eq_true, Bool.and_eq_true, decide_eq_true_eq, beq_iff_eq]; omega
  · rw [Bool.eq_iff_iff]; simp only [Bool.and_eq_true, beq_iff_eq]; omega

set_option maxHeartbeats 4000000 in
set_option maxRecDepth 10000 in
theorem identRises_walk (a : Int) (_ha : (Lit.int .i64 a).wf = true) (b : Int) (_hb : (Lit.int .i64 b).wf = true) (c : Int) (_hc : (Lit.int .i64 c).wf = true) (d : Int) (_hd : (Lit.int .i64 d).wf = true) (w : World) :
    Calls Try.prog 9 #[.int .i64 a, .int .i64 b, .int .i64 c, .int .i64 d] w (RetBelow w (.bool true)) := by
  obtain ⟨m, e, ok, hm, _, h1⟩ := make_any a b
  obtain ⟨n, f, ok2, hn, _, h2⟩ := make_any c d
  have H1 := Lib.hid h1
  have H2 := Lib.hid h2
  clear h1 h2 _ha _hb _hc _hd
  by_cases hboth : e = 0 ∧ f = 0
  · obtain ⟨rfl, rfl⟩ := hboth
    have hm' : okT a ∧ okT b ∧ m = mk a.toNat b.toNat := by rcases hm with ⟨g1, g2, g3, _⟩ | ⟨_, _, h, _⟩; exact ⟨g1, g2, g3⟩; cases h
    have hn' : okT c ∧ okT d ∧ n = mk c.toNat d.toNat := by rcases hn with ⟨g1, g2, g3, _⟩ | ⟨_, _, h, _⟩; exact ⟨g1, g2, g3⟩; cases h
    have hr := rises_of a b c d hm'.1 hm'.2.1 hn'.1 hn'.2.1
    rw [← hm'.2.2, ← hn'.2.2] at hr
    clear hm hn hm' hn'
    have step : ∀ x y : Bool, Op.bytesLess m n = x → (m == n) = y → ((a < c ∧ x = true ∧ y = false) ∨ (a = c ∧ b < d ∧ x = true ∧ y = false) ∨ (a = c ∧ b = d ∧ x = false ∧ y = true) ∨ (a = c ∧ d < b ∧ x = false ∧ y = false) ∨ (c < a ∧ x = false ∧ y = false)) →
        Calls Try.prog 9 #[.int .i64 a, .int .i64 b, .int .i64 c, .int .i64 d] w (RetBelow w (.bool true)) := by
      intro x y hx hy hcase
      clear hr
      rcases hcase with ⟨g1, rfl, rfl⟩ | ⟨rfl, g2, rfl, rfl⟩ | ⟨rfl, rfl, rfl, rfl⟩ | ⟨rfl, g2, rfl, rfl⟩ | ⟨g1, rfl, rfl⟩
      all_goals
        go_enter Try.func9, Try.ntmps9
        go_wp2_with fail
        refine (H1.out _).mono ?_
        rintro e w1 ⟨rfl, hb1⟩
        go_wp2_with fail
        refine (H2.out _).mono ?_
        rintro e w2 ⟨rfl, hb2⟩
        go_wp2_with fail
        refine (awake8_any _).mono ?_
        rintro e w3 ⟨rfl, hb3⟩
        go_wp2_with fail
        go_ret
        exact ⟨by first | rfl | (simp; omega), below_trans (below_trans hb1 hb2) hb3⟩
    refine step _ _ hr.1 hr.2 ?_
    rcases Int.lt_trichotomy a c with h | h | h
    · left
      have : ¬ a = c := by omega
      simp [h, this]
    · subst h
      rcases Int.lt_trichotomy b d with h2 | h2 | h2
      · have : ¬ b = d := by omega
        simp [h2, this]
      · subst h2
        simp
      · have h3 : ¬ b = d := by omega
        have h4 : ¬ b < d := by omega
        simp [h2, h3, h4]
    · have h3 : ¬ a = c := by omega
      have h4 : ¬ a < c := by omega
      simp [h, h3, h4]
  · have he : e = 0 ∨ e = 1 := by rcases hm with ⟨_, _, _, h, _⟩ | ⟨_, _, h, _⟩ <;> simp [h]
    have hf : f = 0 ∨ f = 1 := by rcases hn with ⟨_, _, _, h, _⟩ | ⟨_, _, h, _⟩ <;> simp [h]
    clear hm hn
    rcases he with rfl | rfl <;> rcases hf with rfl | rfl
    · exact absurd ⟨rfl, rfl⟩ hboth
    all_goals
      clear hboth
      go_enter Try.func9, Try.ntmps9
      go_wp2_with fail
      refine (H1.out _).mono ?_
      rintro e w1 ⟨rfl, hb1⟩
      go_wp2_with fail
      refine (H2.out _).mono ?_
      rintro e w2 ⟨rfl, hb2⟩
      go_wp2_with fail
      refine (awake8_any _).mono ?_
      rintro e w3 ⟨rfl, hb3⟩
      go_wp2_with fail
      refine (awake8_any _).mono ?_
      rintro e w4 ⟨rfl, hb4⟩
      go_wp2_with fail
      go_ret
      exact ⟨rfl, below_trans (below_trans (below_trans hb1 hb2) hb3) hb4⟩

set_option maxRecDepth 100000 in
theorem identRises_lifted (os : Os) (started : os.Started) (H : Type) (enc : TypeId × Value → H) :
    ReturnsInHanded {} Try.checked os 9 .any (Rows.identRisesSpec.pre6 enc Try.prog Try.f9 Rows.identRisesRow.domain false) (Rows.identRisesSpec.post enc Try.prog Try.f9 false true false false) := by
  refine returnsInHanded_of_change_sized (C := Try.checked) law_own started (by kernel_rfl) Try.func9
    (ChangeSpec.witness6 (enc := enc) (C := Try.checked) false ⟨#[], #[.int .i64 0, .int .i64 0, .int .i64 0, .int .i64 0], []⟩ 8 (by kernel_rfl) (by kernel_rfl) (by kernel_rfl) (by kernel_rfl)) ?_
  intro W base args ds gs before hval0 hW _ hsz0 _
  have hval : ∀ (j : Nat) t v, Try.f9.params[j]? = some t → args[j]? = some v → Value.okWide Try.prog W .any base t v := hval0
  have hsz : (DataW.weightsEach Try.prog (Try.f9.params.toList ++ Rows.identRisesSpec.plain.varTypes Try.prog) (ds ++ gs)).all (· ≤ reachBytes) = true := hsz0
  have hW' := hW
  obtain ⟨p, q, hA0, hV, rfl, _, _⟩ := hW
  have hA : DataW.TrodAll enc Try.prog W 0 (fun _ => true) true Try.f9.params.toList args.toList ds p := hA0
  rw [Try.params9] at hA hval hsz
  obtain ⟨v0, vs0, d0, ds0, p0, q0, hargs, rfl, rfl, h0, r0⟩ := trodAll_cons hA
  obtain ⟨v1, vs1, d1, ds1, p1, q1, rfl, rfl, rfl, h1, r1⟩ := trodAll_cons r0
  obtain ⟨v2, vs2, d2, ds2, p2, q2, rfl, rfl, rfl, h2, r2⟩ := trodAll_cons r1
  obtain ⟨v3, vs3, d3, ds3, p3, q3, rfl, rfl, rfl, h3, r3⟩ := trodAll_cons r2
  obtain ⟨rfl, rfl, rfl⟩ := trodAll_nil r3
  obtain rfl : args = #[v0, v1, v2, v3] := by cases args; simp_all
  obtain ⟨rfl, rfl⟩ := trodVars_none hV
  obtain ⟨a0, rfl, rfl, rfl, w0⟩ := open_int Try.underlying3 (hval 0 3 v0 rfl rfl) h0
  obtain ⟨a1, rfl, rfl, rfl, w1⟩ := open_int Try.underlying3 (hval 1 3 v1 rfl rfl) h1
  obtain ⟨a2, rfl, rfl, rfl, w2⟩ := open_int Try.underlying3 (hval 2 3 v2 rfl rfl) h2
  obtain ⟨a3, rfl, rfl, rfl, w3⟩ := open_int Try.underlying3 (hval 3 3 v3 rfl rfl) h3
  refine (identRises_walk a0 w0 a1 w1 a2 w2 a3 w3 W).mono fun e W' ⟨he, hb⟩ => ?_
  subst he
  exact ⟨_, rfl, law_post law_laid (by intro t ht; rw [Try.params9] at ht; simp only [List.mem_cons, List.not_mem_nil, or_false] at ht; rcases ht with rfl | rfl | rfl | rfl <;> exact ⟨by kernel_rfl, of_decide_eq_true (by kernel_rfl)⟩) rfl Try.underlying4 rfl rfl hW' hb⟩

theorem identRises_holds : Rows.IdentRisesSaid :=
  OpenClaim.holds_of_wide 9 Try.f9 rfl rfl rfl rfl rfl rfl rfl ⟨rfl, rfl, rfl, rfl, rfl⟩ rfl rfl rfl rfl rfl (by kernel_rfl) Try.func9 (by kernel_rfl)
    (of_decide_eq_true (by kernel_rfl)) (by unfold Func.isWrapper; first | (rw [if_pos (by decide +kernel)]; kernel_rfl) | (rw [if_neg (by decide +kernel)]; exact ⟨rfl, rfl⟩))
    (fun os started H enc _ => identRises_lifted os started H enc)

end Go.Proofs.Ytmnakjjhphoopaa
