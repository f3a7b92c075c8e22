/-
  Layer 2: FrameBehind: records, and bytes behind them that are none, are read as these.
-/
import Derived.Test.YtmnakjjhphoopaaFrmL
import Derived.Test.YtmnakjjhphoopaaRows
namespace Go.Proofs.Ytmnakjjhphoopaa
open Go.RowKit Go.Bar Go.Bar.Leb Go.Bar.Frm Go.ChangeShapes Go.WideShapes Go.ChangeAt
open Go.ChangeMaps (open_string shut_string)

set_option maxHeartbeats 1000000 in
set_option maxRecDepth 10000 in
theorem frameBehind_walk0 (v : Value) (rs0 : List Rc) (t0 : ByteArray) (ht0 : t0.size ≤ maxLen) (w : World) (h : RecsAt w v rs0 ∧ ∀ r ∈ rs0, r.2.length ≤ maxLen) :
    Calls Try.prog 7 #[v, .string t0] w (RetBelow w (.bool true)) := by
  obtain ⟨rs, hrs⟩ : ∃ rs, rs = few rs0 := ⟨_, rfl⟩
  have hn := few_len rs0
  have hsh := few_short rs0
  rw [← hrs] at hn hsh
  obtain ⟨t, ht⟩ : ∃ t, t = t0.data.toList.take 50 := ⟨_, rfl⟩
  have htl : t.length ≤ 50 := by rw [ht]; exact List.length_take_le _ _
  obtain ⟨S, hS⟩ : ∃ S, S = laid rs := ⟨_, rfl⟩
  have hSl := laid_short rs hsh
  rw [← hS] at hSl
  obtain ⟨k, d, r, er, hnx⟩ : ∃ k d r er, next t = ((k, d), r, er) := ⟨_, _, _, _, rfl⟩
  have hall := recs_laid rs t (fun r hr => Nat.le_trans (hsh r hr) (by omega))
  rw [hnx, ← hS] at hall
  simp only at hall
  have HRS := Lib.hid hrs
  have HT := Lib.hid ht
  have HS := Lib.hid hS
  have HN := Lib.hid hnx
  have hfew := few_any v rs0 w h.1 h.2
  rw [← hrs] at hfew
  have HF := Lib.hid hfew
  clear hfew hrs ht hS hnx h
  by_cases he : er = 0
  · subst he
    clear hall
    go_enter Try.func7, Try.ntmps7
    go_wp2_with fail
    refine HF.out.mono ?_
    rintro e w1 ⟨v1, rfl, hb1, hl1⟩
    have h1 : RecsAt w1 v1 rs := SlAt.of_buf hb1
    clear hb1
    go_wp2_with fail
    refine (laid_any v1 rs _ h1 hn hsh).mono ?_
    rintro e w2 ⟨v2, rfl, hb2⟩
    have hl2 := below_trans hl1 hb2.below
    rw [← HS.out]
    clear hb2
    go_wp2_with fail
    refine (cut_any t0 50 _ (by omega) (by omega) ht0).mono ?_
    rintro e w' ⟨rfl, rfl⟩
    rw [show ((50 : Int)).toNat = 50 from rfl, ← HT.out]
    go_wp2_with fail
    refine (next_of HN.out _ (by omega)).mono ?_
    rintro e w3 ⟨rfl, hb3⟩
    have hl3 := below_trans hl2 hb3
    clear hb3 hl2
    go_wp2_with fail
    refine (awake2_any _).mono ?_
    rintro e w4 ⟨rfl, hb4⟩
    go_wp2_with fail
    go_ret
    exact ⟨rfl, below_trans (hl3.alloc hl3.size _) hb4⟩
  · have hb : ((er : Int) == 0) = false := by rw [beq_eq_false_iff_ne]; omega
    obtain ⟨h1, h2⟩ := hall he
    have hall := fun w => all_of (l := S ++ t) (n := S.length) h1 h2 (by rw [List.length_append]; omega) w (by rw [List.length_append]; omega)
    have HA := Lib.hid hall
    clear hall h1 h2 he
    go_enter Try.func7, Try.ntmps7
    go_wp2_with fail
    refine HF.out.mono ?_
    rintro e w1 ⟨v1, rfl, hb1, hl1⟩
    have h1 : RecsAt w1 v1 rs := SlAt.of_buf hb1
    clear hb1
    go_wp2_with fail
    refine (laid_any v1 rs _ h1 hn hsh).mono ?_
    rintro e w2 ⟨v2, rfl, hb2⟩
    have h1 := h1.below hb2.below
    have hl2 := below_trans hl1 hb2.below
    rw [← HS.out]
    clear hb2 hl1
    go_wp2_with fail
    refine (cut_any t0 50 _ (by omega) (by omega) ht0).mono ?_
    rintro e w' ⟨rfl, rfl⟩
    rw [show ((50 : Int)).toNat = 50 from rfl, ← HT.out]
    go_wp2_with fail
    refine (next_of HN.out _ (by omega)).mono ?_
    rintro e w3 ⟨rfl, hb3⟩
    have h1 := h1.below hb3
    have hl3 := below_trans hl2 hb3
    clear hb3 hl2
    go_wp2_with fail
    refine (HA.out _).mono ?_
    rintro e w4 ⟨v4, rfl, h4, hb4⟩
    have h1 := (SlAt.below h1 ((Below.refl _ _).alloc (Nat.le_refl _) _) : RecsAt _ _ _).below hb4
    have hl4 := below_trans (hl3.alloc hl3.size _) hb4
    clear hb4 hl3
    go_wp2_with fail
    refine (awake2_any _).mono ?_
    rintro e w5 ⟨rfl, hb5⟩
    have h1 := h1.below hb5
    have h4 := h4.below hb5
    have hl5 := below_trans hl4 hb5
    clear hb5 hl4
    go_wp2_with fail
    refine (same_any v4 v1 rs _ h4 h1).mono ?_
    rintro e w6 ⟨rfl, n6, rfl⟩
    go_wp2_with fail
    go_ret
    exact ⟨rfl, below_drewN hl5 n6⟩

set_option maxRecDepth 100000 in
theorem frameBehind_lifted (os : Os) (started : os.Started) (H : Type) (enc : TypeId × Value → H) :
    ReturnsInHanded {} Try.checked os 7 .any (Rows.frameBehindSpec.pre6 enc Try.prog Try.f7 Rows.frameBehindRow.domain false) (Rows.frameBehindSpec.post enc Try.prog Try.f7 false true false false) := by
  refine returnsInHanded_of_change_sized (C := Try.checked) law_own started (by kernel_rfl) Try.func7
    (ChangeSpec.witness6 (enc := enc) (C := Try.checked) false ⟨#[], #[.slice none 0 0, .string ByteArray.empty], []⟩ 8 (by kernel_rfl) (by kernel_rfl) (by kernel_rfl) (by kernel_rfl)) ?_
  intro W base args ds gs before hval0 hW _ hsz0 _
  have hval : ∀ (j : Nat) t v, Try.f7.params[j]? = some t → args[j]? = some v → Value.okWide Try.prog W .any base t v := hval0
  have hsz : (DataW.weightsEach Try.prog (Try.f7.params.toList ++ Rows.frameBehindSpec.plain.varTypes Try.prog) (ds ++ gs)).all (· ≤ reachBytes) = true := hsz0
  have hW' := hW
  obtain ⟨p, q, hA0, hV, rfl, _, _⟩ := hW
  have hA : DataW.TrodAll enc Try.prog W 0 (fun _ => true) true Try.f7.params.toList args.toList ds p := hA0
  rw [Try.params7] at hA hval hsz
  obtain ⟨v0, vs0, d0, ds0, p0, q0, hargs, rfl, rfl, h0, r0⟩ := trodAll_cons hA
  obtain ⟨v1, vs1, d1, ds1, p1, q1, rfl, rfl, rfl, h1, r1⟩ := trodAll_cons r0
  obtain ⟨rfl, rfl, rfl⟩ := trodAll_nil r1
  obtain rfl : args = #[v0, v1] := by cases args; simp_all
  obtain ⟨rfl, rfl⟩ := trodVars_none hV
  obtain ⟨a1, rfl, rfl, rfl, w1⟩ := open_string Try.underlying9 (hval 1 9 v1 rfl rfl) h1
  obtain ⟨ts0, hts0⟩ := open_recs (hval 0 38 v0 rfl rfl) h0
  refine (frameBehind_walk0 v0 ts0 a1 w1 W hts0).mono fun e W' ⟨he, hb⟩ => ?_
  subst he
  exact ⟨_, rfl, law_post law_laid (by intro t ht; rw [Try.params7] at ht; simp only [List.mem_cons, List.not_mem_nil, or_false] at ht; rcases ht with rfl | rfl <;> exact ⟨by kernel_rfl, of_decide_eq_true (by kernel_rfl)⟩) rfl Try.underlying4 rfl rfl hW' hb⟩

theorem frameBehind_holds : Rows.FrameBehindSaid :=
  OpenClaim.holds_of_wide 7 Try.f7 rfl rfl rfl rfl rfl rfl rfl ⟨rfl, rfl, rfl, rfl, rfl⟩ rfl rfl rfl rfl rfl (by kernel_rfl) Try.func7 (by kernel_rfl)
    (of_decide_eq_true (by kernel_rfl)) (by unfold Func.isWrapper; first | (rw [if_pos (by decide +kernel)]; kernel_rfl) | (rw [if_neg (by decide +kernel)]; exact ⟨rfl, rfl⟩))
    (fun os started H enc _ => frameBehind_lifted os started H enc)

end Go.Proofs.Ytmnakjjhphoopaa
