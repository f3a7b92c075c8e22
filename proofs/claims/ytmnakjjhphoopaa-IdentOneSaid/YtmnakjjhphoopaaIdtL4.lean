/-
  Layer 8: IdentOne.
-/
import Derived.Test.YtmnakjjhphoopaaIdtL
import Derived.Test.YtmnakjjhphoopaaRows
namespace Go.Proofs.Ytmnakjjhphoopaa
open Go.RowKit Go.Bar Go.Bar.Idt Go.ChangeShapes Go.WideShapes Go.ChangeAt
open Go.ChangeMaps (open_string shut_string)

set_option maxHeartbeats 4000000 in
set_option maxRecDepth 10000 in
theorem identOne_walk (s0 : ByteArray) (hs0 : s0.size ≤ maxLen) (w : World) :
    Calls Try.prog 10 #[.string s0] w (RetBelow w (.bool true)) := by
  obtain ⟨l, hl⟩ : ∃ l, l = s0.data.toList.take 30 := ⟨_, rfl⟩
  have hlen : l.length ≤ 1000000000000 := by rw [hl]; exact Nat.le_trans (List.length_take_le _ _) (by omega)
  have HL := Lib.hid hl
  clear hl
  have h3 := parse_any l
  obtain ⟨u, hu⟩ : ∃ u, parse l = u := ⟨_, rfl⟩
  rw [hu] at h3
  rcases u with _ | ⟨a, b⟩
  · have H3 := Lib.hid h3
    clear h3 hu
    simp only [parseV] at H3
    go_enter Try.func10, Try.ntmps10
    go_wp2_with fail
    refine (cut_any s0 30 _ (by omega) (by omega) hs0).mono ?_
    rintro e w' ⟨rfl, rfl⟩
    rw [show ((30 : Int)).toNat = 30 from rfl, ← HL.out]
    go_wp2_with fail
    refine (H3.out _ hlen).mono ?_
    rintro e w' ⟨rfl, rfl⟩
    go_wp2_with fail
    refine (awake8_any _).mono ?_
    rintro e w1 ⟨rfl, hb1⟩
    go_wp2_with fail
    refine (awake8_any _).mono ?_
    rintro e w2 ⟨rfl, hb2⟩
    go_wp2_with fail
    go_ret
    exact ⟨rfl, below_trans hb1 hb2⟩
  · obtain ⟨g1, g2, g3⟩ := parse_one l a b hu
    have h4 : ∀ w, Calls Try.prog 32 #[.int .i64 (a : Int), .int .i64 (b : Int)] w (RetBelow w (.tuple #[.string (bs l), .int .i64 0])) := fun w => by
      have := make_ok a b w ⟨by omega, by omega⟩ ⟨by omega, by omega⟩
      rw [Int.toNat_natCast, Int.toNat_natCast, ← g1] at this
      exact this
    have H3 := Lib.hid h3
    have H4 := Lib.hid h4
    clear h3 hu h4 g1 g2 g3
    simp only [parseV] at H3
    go_enter Try.func10, Try.ntmps10
    go_wp2_with fail
    refine (cut_any s0 30 _ (by omega) (by omega) hs0).mono ?_
    rintro e w' ⟨rfl, rfl⟩
    rw [show ((30 : Int)).toNat = 30 from rfl, ← HL.out]
    go_wp2_with fail
    refine (H3.out _ hlen).mono ?_
    rintro e w' ⟨rfl, rfl⟩
    go_wp2_with fail
    refine (awake8_any _).mono ?_
    rintro e w1 ⟨rfl, hb1⟩
    go_wp2_with fail
    refine (H4.out _).mono ?_
    rintro e w2 ⟨rfl, hb2⟩
    go_wp2_with fail
    go_ret
    exact ⟨rfl, below_trans hb1 hb2⟩

set_option maxRecDepth 100000 in
theorem identOne_lifted (os : Os) (started : os.Started) (H : Type) (enc : TypeId × Value → H) :
    ReturnsInHanded {} Try.checked os 10 .any (Rows.identOneSpec.pre6 enc Try.prog Try.f10 Rows.identOneRow.domain false) (Rows.identOneSpec.post enc Try.prog Try.f10 false true false false) := by
  refine returnsInHanded_of_change_sized (C := Try.checked) law_own started (by kernel_rfl) Try.func10
    (ChangeSpec.witness6 (enc := enc) (C := Try.checked) false ⟨#[], #[.string ByteArray.empty], []⟩ 8 (by kernel_rfl) (by kernel_rfl) (by kernel_rfl) (by kernel_rfl)) ?_
  intro W base args ds gs before hval0 hW _ hsz0 _
  have hval : ∀ (j : Nat) t v, Try.f10.params[j]? = some t → args[j]? = some v → Value.okWide Try.prog W .any base t v := hval0
  have hsz : (DataW.weightsEach Try.prog (Try.f10.params.toList ++ Rows.identOneSpec.plain.varTypes Try.prog) (ds ++ gs)).all (· ≤ reachBytes) = true := hsz0
  have hW' := hW
  obtain ⟨p, q, hA0, hV, rfl, _, _⟩ := hW
  have hA : DataW.TrodAll enc Try.prog W 0 (fun _ => true) true Try.f10.params.toList args.toList ds p := hA0
  rw [Try.params10] at hA hval hsz
  obtain ⟨v0, vs0, d0, ds0, p0, q0, hargs, rfl, rfl, h0, r0⟩ := trodAll_cons hA
  obtain ⟨rfl, rfl, rfl⟩ := trodAll_nil r0
  obtain rfl : args = #[v0] := by cases args; simp_all
  obtain ⟨rfl, rfl⟩ := trodVars_none hV
  obtain ⟨a0, rfl, rfl, rfl, w0⟩ := open_string Try.underlying9 (hval 0 9 v0 rfl rfl) h0
  refine (identOne_walk a0 w0 W).mono fun e W' ⟨he, hb⟩ => ?_
  subst he
  exact ⟨_, rfl, law_post law_laid (by intro t ht; rw [Try.params10] at ht; simp only [List.mem_cons, List.not_mem_nil, or_false] at ht; rcases ht with rfl <;> exact ⟨by kernel_rfl, of_decide_eq_true (by kernel_rfl)⟩) rfl Try.underlying4 rfl rfl hW' hb⟩

theorem identOne_holds : Rows.IdentOneSaid :=
  OpenClaim.holds_of_wide 10 Try.f10 rfl rfl rfl rfl rfl rfl rfl ⟨rfl, rfl, rfl, rfl, rfl⟩ rfl rfl rfl rfl rfl (by kernel_rfl) Try.func10 (by kernel_rfl)
    (of_decide_eq_true (by kernel_rfl)) (by unfold Func.isWrapper; first | (rw [if_pos (by decide +kernel)]; kernel_rfl) | (rw [if_neg (by decide +kernel)]; exact ⟨rfl, rfl⟩))
    (fun os started H enc _ => identOne_lifted os started H enc)

end Go.Proofs.Ytmnakjjhphoopaa
