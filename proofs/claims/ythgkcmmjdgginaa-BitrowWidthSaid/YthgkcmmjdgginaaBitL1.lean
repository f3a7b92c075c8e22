/-
  Layer 3: BitrowWidth: a number's width.
-/
import Derived.Test.YthgkcmmjdgginaaBitW
import Derived.Test.YthgkcmmjdgginaaLib2
import Derived.Test.YthgkcmmjdgginaaRows
namespace Go.Proofs.Ythgkcmmjdgginaa
open Go.RowKit Go.Bar Go.Bar.Bit Go.ChangeShapes Go.WideShapes Go.ChangeAt
open Go.ChangeMaps (open_string shut_string)

theorem law_own : ownKnob Try.prog.godebug = none := by kernel_rfl
theorem law_laid : laidOutB Try.prog = true := by kernel_rfl

set_option maxHeartbeats 1000000 in
set_option maxRecDepth 10000 in
theorem bitrowWidth_walk (v : Int) (hv : (Lit.int .u64 v).wf = true) (w : World) :
    Calls Try.prog 4 #[.int .u64 v] w (RetBelow w (.bool true)) := by
  obtain ⟨u, rfl, hu⟩ : ∃ u : Nat, v = (u : Int) ∧ u < 18446744073709551616 := by
    have := bounds_u64 hv
    exact ⟨v.toNat, by omega, by omega⟩
  have hw := width_le u hu
  have hs := width_spec u
  obtain ⟨n, hn⟩ : ∃ n, n = width u := ⟨_, rfl⟩
  rw [← hn] at hw hs
  have HN := Lib.hid hn
  by_cases h0 : u = 0
  · subst h0
    rw [width_zero] at hn
    subst hn
    go_enter Try.func4, Try.ntmps4
    go_wp2_with fail
    refine (width_any 0 _ (by omega)).mono ?_
    rintro e w' ⟨rfl, rfl⟩
    rw [← HN.out]
    go_wp2_with fail
    refine (awake_any _).mono ?_
    rintro e w1 ⟨rfl, h1⟩
    go_wp2_with fail
    go_ret
    exact ⟨rfl, h1⟩
  · have hp : 1 ≤ n := by
      rw [hn, width_pos u (by omega)]
      omega
    obtain ⟨m, rfl⟩ : ∃ m, n = m + 1 := ⟨n - 1, by omega⟩
    have hd : u / 2 ^ m = 1 := by
      have h2 := hs.2 (by omega)
      have h1 := hs.1
      rw [Nat.add_sub_cancel] at h2
      rw [Nat.pow_succ] at h1
      exact Nat.div_eq_of_lt_le (by rw [Nat.one_mul]; exact h2) (by omega)
    have k0 : ((u : Int) == 0) = false := by rw [beq_eq_false_iff_ne]; omega
    clear hs hn
    have HD := Lib.hid hd
    clear hd
    go_enter Try.func4, Try.ntmps4
    go_wp2_with fail
    refine (width_any u _ hu).mono ?_
    rintro e w' ⟨rfl, rfl⟩
    rw [← HN.out]
    go_wp2_with fail
    refine (awake_any _).mono ?_
    rintro e w1 ⟨rfl, h1⟩
    go_wp2_with fail
    go_ret
    have k1 : ((u : Int) / 2 ^ m == 1) = true := by
      rw [beq_iff_eq]
      have := HD.out
      exact_mod_cast this
    rw [k1]
    exact ⟨rfl, h1⟩

set_option maxRecDepth 100000 in
theorem bitrowWidth_lifted (os : Os) (started : os.Started) (H : Type) (enc : TypeId × Value → H) :
    ReturnsInHanded {} Try.checked os 4 .any (Rows.bitrowWidthSpec.pre6 enc Try.prog Try.f4 Rows.bitrowWidthRow.domain false) (Rows.bitrowWidthSpec.post enc Try.prog Try.f4 false true false false) := by
  refine returnsInHanded_of_change_sized (C := Try.checked) law_own started (by kernel_rfl) Try.func4
    (ChangeSpec.witness6 (enc := enc) (C := Try.checked) false ⟨#[], #[.int .u64 0], []⟩ 8 (by kernel_rfl) (by kernel_rfl) (by kernel_rfl) (by kernel_rfl)) ?_
  intro W base args ds gs before hval0 hW _ hsz0 _
  have hval : ∀ (j : Nat) t v, Try.f4.params[j]? = some t → args[j]? = some v → Value.okWide Try.prog W .any base t v := hval0
  have hsz : (DataW.weightsEach Try.prog (Try.f4.params.toList ++ Rows.bitrowWidthSpec.plain.varTypes Try.prog) (ds ++ gs)).all (· ≤ reachBytes) = true := hsz0
  have hW' := hW
  obtain ⟨p, q, hA0, hV, rfl, _, _⟩ := hW
  have hA : DataW.TrodAll enc Try.prog W 0 (fun _ => true) true Try.f4.params.toList args.toList ds p := hA0
  rw [Try.params4] at hA hval hsz
  obtain ⟨v0, vs0, d0, ds0, p0, q0, hargs, rfl, rfl, h0, r0⟩ := trodAll_cons hA
  obtain ⟨rfl, rfl, rfl⟩ := trodAll_nil r0
  obtain rfl : args = #[v0] := by cases args; simp_all
  obtain ⟨rfl, rfl⟩ := trodVars_none hV
  obtain ⟨a0, rfl, rfl, rfl, w0⟩ := open_int Try.underlying30 (hval 0 30 v0 rfl rfl) h0
  refine (bitrowWidth_walk a0 w0 W).mono fun e W' ⟨he, hb⟩ => ?_
  subst he
  exact ⟨_, rfl, law_post law_laid (by intro t ht; rw [Try.params4] at ht; simp only [List.mem_cons, List.not_mem_nil, or_false] at ht; rcases ht with rfl <;> exact ⟨by kernel_rfl, of_decide_eq_true (by kernel_rfl)⟩) rfl Try.underlying4 rfl rfl hW' hb⟩

theorem bitrowWidth_holds : Rows.BitrowWidthSaid :=
  OpenClaim.holds_of_wide 4 Try.f4 rfl rfl rfl rfl rfl rfl rfl ⟨rfl, rfl, rfl, rfl, rfl⟩ rfl rfl rfl rfl rfl (by kernel_rfl) Try.func4 (by kernel_rfl)
    (of_decide_eq_true (by kernel_rfl)) (by unfold Func.isWrapper; first | (rw [if_pos (by decide +kernel)]; kernel_rfl) | (rw [if_neg (by decide +kernel)]; exact ⟨rfl, rfl⟩))
    (fun os started H enc _ => bitrowWidth_lifted os started H enc)

end Go.Proofs.Ythgkcmmjdgginaa
