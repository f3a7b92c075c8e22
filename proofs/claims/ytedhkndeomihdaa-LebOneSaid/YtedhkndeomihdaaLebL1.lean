/-
  Layer 1: LebOne: bytes that are taken as a number are its bytes.
-/
import Derived.Test.YtedhkndeomihdaaLebR
import Derived.Test.YtedhkndeomihdaaLib2
import Derived.Test.YtedhkndeomihdaaRows
namespace Go.Proofs.Ytedhkndeomihdaa
open Go.RowKit Go.Bar Go.Bar.Leb Go.ChangeShapes Go.WideShapes Go.ChangeAt
open Go.ChangeMaps (open_string shut_string)

theorem law_own : ownKnob Try.prog.godebug = none := by kernel_rfl
theorem law_laid : laidOutB Try.prog = true := by kernel_rfl

set_option maxHeartbeats 1000000 in
set_option maxRecDepth 10000 in
theorem lebOne_walk (s0 : ByteArray) (hs0 : s0.size ≤ maxLen) (w : World) :
    Calls Try.prog 5 #[.string s0] w (RetBelow w (.bool true)) := by
  have hlen : (s0.data.toList.take 50).length ≤ 50 := List.length_take_le _ _
  obtain ⟨l, hl⟩ : ∃ l, l = s0.data.toList.take 50 := ⟨_, rfl⟩
  rw [← hl] at hlen
  have HL := Lib.hid hl
  clear hl
  have hs : (bs l).size ≤ maxLen := by rw [bs_size]; unfold maxLen; omega
  have hp := takeU_prop l
  have hone := takeU_one l
  obtain ⟨v, r, er, ht⟩ : ∃ v r er, takeU l = (v, r, er) := ⟨_, _, _, rfl⟩
  rw [ht] at hp hone
  simp only [] at hp hone
  obtain ⟨hv, hr, he⟩ := hp
  have hrg := unfold_rg v hv
  have hti : takeI l = (unfold v, r, er) := by unfold takeI; rw [ht]
  have HT := Lib.hid ht
  have HI := Lib.hid hti
  clear ht hti
  rcases he with rfl | ⟨he, rfl, rfl⟩
  · have hone := hone rfl
    have hfu := fold_unfold v
    have k1 : (u v ++ r == l) = true := by rw [beq_iff_eq]; exact hone
    have hvl : (u v).length ≤ 10 := u_len v hv
    clear hone
    go_enter Try.func5, Try.ntmps5
    go_wp2_with fail
    refine (cut_any s0 50 _ (by omega) (by omega) hs0).mono ?_
    rintro e w' ⟨rfl, rfl⟩
    rw [show ((50 : Int)).toNat = 50 from rfl, ← HL.out]
    go_wp2_with fail
    refine (takeUint_of (bs l) HT.out _ hs).mono ?_
    rintro e w' ⟨rfl, n1, rfl⟩
    go_wp2_with fail
    have h2 := takeInt_any (bs l) (w.drewN n1) hs
    rw [bs_data, HI.out] at h2
    refine h2.mono ?_
    clear h2
    rintro e w' ⟨rfl, n2, rfl⟩
    go_wp2_with fail
    refine (awake_any _).mono ?_
    rintro e w3 ⟨rfl, hb3⟩
    go_wp2_with fail
    refine (uint_any (.slice none 0 0) [] v _ hv (by simp) (BBuf.nil _ _)).mono ?_
    rintro e w4 ⟨v1, rfl, h1⟩
    have hc1 := h1.buf.string bytes_ty 9 Try.underlying9
    have hb4 := h1.nil_below
    clear h1
    simp only [List.nil_append] at hc1
    go_wp2_with fail
    refine (int_any (.slice none 0 0) [] (unfold v) _ hrg.1 hrg.2 (by simp) (BBuf.nil _ _)).mono ?_
    rintro e w5 ⟨v2, rfl, h1⟩
    have hc2 := h1.buf.string bytes_ty 9 Try.underlying9
    rw [hfu] at hc2
    have hb5 := h1.nil_below
    clear h1 hc1
    simp only [List.nil_append] at hc2
    go_wp2_with fail
    go_ret
    exact ⟨rfl, below_trans (below_trans (below_trans (below_draws w _) hb3) hb4) hb5⟩
  · have k1 : ((er : Int) != 0) = true := by rw [bne_iff_ne]; omega
    clear hone he
    go_enter Try.func5, Try.ntmps5
    go_wp2_with fail
    refine (cut_any s0 50 _ (by omega) (by omega) hs0).mono ?_
    rintro e w' ⟨rfl, rfl⟩
    rw [show ((50 : Int)).toNat = 50 from rfl, ← HL.out]
    go_wp2_with fail
    refine (takeUint_of (bs l) HT.out _ hs).mono ?_
    rintro e w' ⟨rfl, n1, rfl⟩
    go_wp2_with fail
    have h2 := takeInt_any (bs l) (w.drewN n1) hs
    rw [bs_data, HI.out] at h2
    refine h2.mono ?_
    clear h2
    rintro e w' ⟨rfl, n2, rfl⟩
    go_wp2_with fail
    refine (awake_any _).mono ?_
    rintro e w3 ⟨rfl, hb3⟩
    go_wp2_with fail
    go_ret
    exact ⟨rfl, below_trans (below_draws w _) hb3⟩

set_option maxRecDepth 100000 in
theorem lebOne_lifted (os : Os) (started : os.Started) (H : Type) (enc : TypeId × Value → H) :
    ReturnsInHanded {} Try.checked os 5 .any (Rows.lebOneSpec.pre6 enc Try.prog Try.f5 Rows.lebOneRow.domain false) (Rows.lebOneSpec.post enc Try.prog Try.f5 false true false false) := by
  refine returnsInHanded_of_change_sized (C := Try.checked) law_own started (by kernel_rfl) Try.func5
    (ChangeSpec.witness6 (enc := enc) (C := Try.checked) false ⟨#[], #[.string ByteArray.empty], []⟩ 8 (by kernel_rfl) (by kernel_rfl) (by kernel_rfl) (by kernel_rfl)) ?_
  intro W base args ds gs before hval0 hW _ hsz0 _
  have hval : ∀ (j : Nat) t v, Try.f5.params[j]? = some t → args[j]? = some v → Value.okWide Try.prog W .any base t v := hval0
  have hsz : (DataW.weightsEach Try.prog (Try.f5.params.toList ++ Rows.lebOneSpec.plain.varTypes Try.prog) (ds ++ gs)).all (· ≤ reachBytes) = true := hsz0
  have hW' := hW
  obtain ⟨p, q, hA0, hV, rfl, _, _⟩ := hW
  have hA : DataW.TrodAll enc Try.prog W 0 (fun _ => true) true Try.f5.params.toList args.toList ds p := hA0
  rw [Try.params5] at hA hval hsz
  obtain ⟨v0, vs0, d0, ds0, p0, q0, hargs, rfl, rfl, h0, r0⟩ := trodAll_cons hA
  obtain ⟨rfl, rfl, rfl⟩ := trodAll_nil r0
  obtain rfl : args = #[v0] := by cases args; simp_all
  obtain ⟨rfl, rfl⟩ := trodVars_none hV
  obtain ⟨a0, rfl, rfl, rfl, w0⟩ := open_string Try.underlying9 (hval 0 9 v0 rfl rfl) h0
  refine (lebOne_walk a0 w0 W).mono fun e W' ⟨he, hb⟩ => ?_
  subst he
  exact ⟨_, rfl, law_post law_laid (by intro t ht; rw [Try.params5] at ht; simp only [List.mem_cons, List.not_mem_nil, or_false] at ht; rcases ht with rfl <;> exact ⟨by kernel_rfl, of_decide_eq_true (by kernel_rfl)⟩) rfl Try.underlying4 rfl rfl hW' hb⟩

theorem lebOne_holds : Rows.LebOneSaid :=
  OpenClaim.holds_of_wide 5 Try.f5 rfl rfl rfl rfl rfl rfl rfl ⟨rfl, rfl, rfl, rfl, rfl⟩ rfl rfl rfl rfl rfl (by kernel_rfl) Try.func5 (by kernel_rfl)
    (of_decide_eq_true (by kernel_rfl)) (by unfold Func.isWrapper; first | (rw [if_pos (by decide +kernel)]; kernel_rfl) | (rw [if_neg (by decide +kernel)]; exact ⟨rfl, rfl⟩))
    (fun os started H enc _ => lebOne_lifted os started H enc)


end Go.Proofs.Ytedhkndeomihdaa
