/-
  Layer 1: LebShort: lesser numbers have no more bytes.
-/
import Derived.Test.YtedhkndeomihdaaLebA
import Derived.Test.YtedhkndeomihdaaLib2
import Derived.Test.YtedhkndeomihdaaRows
namespace Go.Proofs.Ytedhkndeomihdaa
open Go.RowKit Go.Bar Go.Bar.Leb Go.ChangeShapes Go.WideShapes Go.ChangeAt
open Go.ChangeMaps (open_string shut_string)

theorem law_own : ownKnob Try.prog.godebug = none := by kernel_rfl
theorem law_laid : laidOutB Try.prog = true := by kernel_rfl

set_option maxHeartbeats 1000000 in
set_option maxRecDepth 10000 in
theorem lebShort_walk (a : Int) (ha : (Lit.int .u64 a).wf = true) (b : Int) (hb : (Lit.int .u64 b).wf = true) (w : World) :
    Calls Try.prog 3 #[.int .u64 a, .int .u64 b] w (RetBelow w (.bool true)) := by
  have ha' := bounds_u64 ha
  have hb' := bounds_u64 hb
  obtain ⟨m, rfl⟩ : ∃ m : Nat, a = m := ⟨a.toNat, by omega⟩
  obtain ⟨n, rfl⟩ : ∃ n : Nat, b = n := ⟨b.toNat, by omega⟩
  have key : ∀ lo hi : Nat, lo ≤ hi → hi < 18446744073709551616 → (u lo).length ≤ (u hi).length ∧ (u hi).length ≤ 10 ∧ (lo < hi → (u lo == u hi) = false) := fun lo hi h1 h2 =>
    ⟨u_mono hi lo h1, u_len hi h2, fun h3 => by rw [beq_eq_false_iff_ne]; exact fun he => by have := u_inj lo hi (by omega) h2 he; omega⟩
  rcases (show m < n ∨ m = n ∨ n < m by omega) with h | rfl | h
  · obtain ⟨k1, k2, k3⟩ := key m n (by omega) (by omega)
    have k4 := k3 h
    have k5 : ((m : Int) != (n : Int)) = true := by rw [bne_iff_ne]; omega
    have k6 : ¬ n < m := by omega
    clear key k3
    go_enter Try.func3, Try.ntmps3
    go_wp2_with fail
    refine (uint_any (.slice none 0 0) [] m _ (by omega) (by simp) (BBuf.nil _ _)).mono ?_
    rintro e w1 ⟨v1, rfl, h1⟩
    go_wp2_with fail
    refine (uint_any (.slice none 0 0) [] n _ (by omega) (by simp) (BBuf.nil _ _)).mono ?_
    rintro e w2 ⟨v2, rfl, h2⟩
    go_wp2_with fail
    refine (awake_any _).mono ?_
    rintro e w3 ⟨rfl, hb3⟩
    have b1 := (h1.buf.below h2.nil_below).below hb3
    have b2 := h2.buf.below hb3
    have hc1 := b1.string bytes_ty 9 Try.underlying9
    have hc2 := b2.string bytes_ty 9 Try.underlying9
    have hbl := below_trans (below_trans h1.nil_below h2.nil_below) hb3
    obtain ⟨A1, c1, rfl, _⟩ := Buf.shape b1
    obtain ⟨A2, c2, rfl, _⟩ := Buf.shape b2
    clear h1 h2 b1 b2
    simp only [List.nil_append] at hc1 hc2
    go_wp2_with fail
    go_ret
    exact ⟨rfl, hbl⟩
  · obtain ⟨k1, k2, k3⟩ := key m m (by omega) (by omega)
    have k4 : (u m == u m) = true := beq_self_eq_true _
    have k5 : ((m : Int) != (m : Int)) = false := by rw [bne_eq_false_iff_eq]
    clear key k3
    go_enter Try.func3, Try.ntmps3
    go_wp2_with fail
    refine (uint_any (.slice none 0 0) [] m _ (by omega) (by simp) (BBuf.nil _ _)).mono ?_
    rintro e w1 ⟨v1, rfl, h1⟩
    go_wp2_with fail
    refine (uint_any (.slice none 0 0) [] m _ (by omega) (by simp) (BBuf.nil _ _)).mono ?_
    rintro e w2 ⟨v2, rfl, h2⟩
    go_wp2_with fail
    refine (awake_any _).mono ?_
    rintro e w3 ⟨rfl, hb3⟩
    have b1 := (h1.buf.below h2.nil_below).below hb3
    have b2 := h2.buf.below hb3
    have hc1 := b1.string bytes_ty 9 Try.underlying9
    have hc2 := b2.string bytes_ty 9 Try.underlying9
    have hbl := below_trans (below_trans h1.nil_below h2.nil_below) hb3
    obtain ⟨A1, c1, rfl, _⟩ := Buf.shape b1
    obtain ⟨A2, c2, rfl, _⟩ := Buf.shape b2
    clear h1 h2 b1 b2
    simp only [List.nil_append] at hc1 hc2
    go_wp2_with fail
    go_ret
    exact ⟨rfl, hbl⟩
  · obtain ⟨k1, k2, k3⟩ := key n m (by omega) (by omega)
    have k4 := k3 h
    have k5 : ((m : Int) != (n : Int)) = true := by rw [bne_iff_ne]; omega
    clear key k3
    go_enter Try.func3, Try.ntmps3
    go_wp2_with fail
    refine (uint_any (.slice none 0 0) [] n _ (by omega) (by simp) (BBuf.nil _ _)).mono ?_
    rintro e w1 ⟨v1, rfl, h1⟩
    go_wp2_with fail
    refine (uint_any (.slice none 0 0) [] m _ (by omega) (by simp) (BBuf.nil _ _)).mono ?_
    rintro e w2 ⟨v2, rfl, h2⟩
    go_wp2_with fail
    refine (awake_any _).mono ?_
    rintro e w3 ⟨rfl, hb3⟩
    have b1 := (h1.buf.below h2.nil_below).below hb3
    have b2 := h2.buf.below hb3
    have hc1 := b1.string bytes_ty 9 Try.underlying9
    have hc2 := b2.string bytes_ty 9 Try.underlying9
    have hbl := below_trans (below_trans h1.nil_below h2.nil_below) hb3
    obtain ⟨A1, c1, rfl, _⟩ := Buf.shape b1
    obtain ⟨A2, c2, rfl, _⟩ := Buf.shape b2
    clear h1 h2 b1 b2
    simp only [List.nil_append] at hc1 hc2
    go_wp2_with fail
    go_ret
    exact ⟨rfl, hbl⟩

set_option maxRecDepth 100000 in
theorem lebShort_lifted (os : Os) (started : os.Started) (H : Type) (enc : TypeId × Value → H) :
    ReturnsInHanded {} Try.checked os 3 .any (Rows.lebShortSpec.pre6 enc Try.prog Try.f3 Rows.lebShortRow.domain false) (Rows.lebShortSpec.post enc Try.prog Try.f3 false true false false) := by
  refine returnsInHanded_of_change_sized (C := Try.checked) law_own started (by kernel_rfl) Try.func3
    (ChangeSpec.witness6 (enc := enc) (C := Try.checked) false ⟨#[], #[.int .u64 0, .int .u64 0], []⟩ 8 (by kernel_rfl) (by kernel_rfl) (by kernel_rfl) (by kernel_rfl)) ?_
  intro W base args ds gs before hval0 hW _ hsz0 _
  have hval : ∀ (j : Nat) t v, Try.f3.params[j]? = some t → args[j]? = some v → Value.okWide Try.prog W .any base t v := hval0
  have hsz : (DataW.weightsEach Try.prog (Try.f3.params.toList ++ Rows.lebShortSpec.plain.varTypes Try.prog) (ds ++ gs)).all (· ≤ reachBytes) = true := hsz0
  have hW' := hW
  obtain ⟨p, q, hA0, hV, rfl, _, _⟩ := hW
  have hA : DataW.TrodAll enc Try.prog W 0 (fun _ => true) true Try.f3.params.toList args.toList ds p := hA0
  rw [Try.params3] at hA hval hsz
  obtain ⟨v0, vs0, d0, ds0, p0, q0, hargs, rfl, rfl, h0, r0⟩ := trodAll_cons hA
  obtain ⟨v1, vs1, d1, ds1, p1, q1, rfl, rfl, rfl, h1, r1⟩ := trodAll_cons r0
  obtain ⟨rfl, rfl, rfl⟩ := trodAll_nil r1
  obtain rfl : args = #[v0, v1] := by cases args; simp_all
  obtain ⟨rfl, rfl⟩ := trodVars_none hV
  obtain ⟨a0, rfl, rfl, rfl, w0⟩ := open_int Try.underlying22 (hval 0 22 v0 rfl rfl) h0
  obtain ⟨a1, rfl, rfl, rfl, w1⟩ := open_int Try.underlying22 (hval 1 22 v1 rfl rfl) h1
  refine (lebShort_walk a0 w0 a1 w1 W).mono fun e W' ⟨he, hb⟩ => ?_
  subst he
  exact ⟨_, rfl, law_post law_laid (by intro t ht; rw [Try.params3] at ht; simp only [List.mem_cons, List.not_mem_nil, or_false] at ht; rcases ht with rfl | rfl <;> exact ⟨by kernel_rfl, of_decide_eq_true (by kernel_rfl)⟩) rfl Try.underlying4 rfl rfl hW' hb⟩

theorem lebShort_holds : Rows.LebShortSaid :=
  OpenClaim.holds_of_wide 3 Try.f3 rfl rfl rfl rfl rfl rfl rfl ⟨rfl, rfl, rfl, rfl, rfl⟩ rfl rfl rfl rfl rfl (by kernel_rfl) Try.func3 (by kernel_rfl)
    (of_decide_eq_true (by kernel_rfl)) (by unfold Func.isWrapper; first | (rw [if_pos (by decide +kernel)]; kernel_rfl) | (rw [if_neg (by decide +kernel)]; exact ⟨rfl, rfl⟩))
    (fun os started H enc _ => lebShort_lifted os started H enc)


end Go.Proofs.Ytedhkndeomihdaa
