/-
  Layer 1: LebTakes: any bytes are taken, or refused.
-/
import Derived.Test.YtedhkndeomihdaaLebR
import Derived.Test.YtedhkndeomihdaaLib2
import Derived.Test.YtedhkndeomihdaaRows
namespace Go.Proofs.Ytedhkndeomihdaa
open Go.RowKit Go.Bar Go.Bar.Leb Go.ChangeShapes Go.WideShapes Go.ChangeAt
open Go.ChangeMaps (open_string shut_string)

theorem law_own : ownKnob Try.prog.godebug = none := by kernel_rfl
theorem law_laid : laidOutB Try.prog = true := by kernel_rfl

set_option maxHeartbeats 2000000 in
set_option maxRecDepth 100000 in
theorem lebTakes_walk (s0 : ByteArray) (hs0 : s0.size ≤ maxLen) (most : Int) (hm0 : (Lit.int .i64 most).wf = true) (w : World) :
    Calls Try.prog 8 #[.string s0, .int .i64 most] w (RetBelow w (.bool true)) := by
  obtain ⟨hm1, hm2⟩ := bounds_i64 hm0
  clear hm0
  have hlen : (s0.data.toList.take 200).length ≤ 200 := List.length_take_le _ _
  obtain ⟨l, hl⟩ : ∃ l, l = s0.data.toList.take 200 := ⟨_, rfl⟩
  rw [← hl] at hlen
  have HL := Lib.hid hl
  clear hl
  have hs : (bs l).size ≤ maxLen := by rw [bs_size]; unfold maxLen; omega
  have h0 : l = [] → takeU l = (0, [], 2) := by rintro rfl; rfl
  obtain ⟨v, r, er, t1⟩ : ∃ v r er, takeU l = (v, r, er) := ⟨_, _, _, rfl⟩
  obtain ⟨v2, r2, er2, t2⟩ : ∃ v r er, takeI l = (v, r, er) := ⟨_, _, _, rfl⟩
  obtain ⟨v3, r3, er3, t3⟩ : ∃ v r er, takeMost l most = (v, r, er) := ⟨_, _, _, rfl⟩
  obtain ⟨v4, r4, er4, t4⟩ : ∃ v r er, takeText l most = (v, r, er) := ⟨_, _, _, rfl⟩
  rw [t1] at h0
  have T1 := Lib.hid (show takeU (bs l).data.toList = (v, r, er) from t1)
  have T2 := Lib.hid (show takeI (bs l).data.toList = (v2, r2, er2) from t2)
  have T3 := Lib.hid (show takeMost (bs l).data.toList most = (v3, r3, er3) from t3)
  have T4 := Lib.hid (show takeText (bs l).data.toList most = (v4, r4, er4) from t4)
  clear t1 t2 t3 t4
  match l with
  | [] =>
    obtain ⟨rfl, rfl, rfl⟩ : v = 0 ∧ r = [] ∧ er = 2 := by simpa using h0 rfl
    clear h0
    have he : (bs []).toList.isEmpty = true := bs_isEmpty []
    go_enter Try.func8, Try.ntmps8
    go_wp2_with fail
    refine (cut_any s0 200 _ (by omega) (by omega) hs0).mono ?_
    rintro e w' ⟨rfl, rfl⟩
    rw [show ((200 : Int)).toNat = 200 from rfl, ← HL.out]
    go_wp2_with fail
    refine (takeUint_of (bs []) T1.out _ hs).mono ?_
    rintro e w' ⟨rfl, n1, rfl⟩
    go_wp2_with fail
    refine (refTakeUint_of (bs []) T1.out _ hs).mono ?_
    rintro e w' ⟨rfl, n2, rfl⟩
    go_wp2_with fail
    refine (takeInt_of (bs []) T2.out _ hs).mono ?_
    rintro e w' ⟨rfl, n3, rfl⟩
    go_wp2_with fail
    refine (refTakeInt_of (bs []) T2.out _ hs).mono ?_
    rintro e w' ⟨rfl, n4, rfl⟩
    go_wp2_with fail
    refine (takeMost_of (bs []) most T3.out _ hs hm1 hm2).mono ?_
    rintro e w' ⟨rfl, n5, rfl⟩
    go_wp2_with fail
    refine (refTakeMost_of (bs []) most T3.out _ hs hm1 hm2).mono ?_
    rintro e w' ⟨rfl, n6, rfl⟩
    go_wp2_with fail
    refine (takeText_of (bs []) most T4.out _ hs hm1 hm2).mono ?_
    rintro e w' ⟨rfl, n7, rfl⟩
    go_wp2_with fail
    refine (refTakeText_of (bs []) most T4.out _ hs hm1 hm2).mono ?_
    rintro e w' ⟨rfl, n8, rfl⟩
    go_wp2_with fail
    refine (takeByte_none (bs []) _ rfl).mono ?_
    rintro e w' ⟨rfl, n9, rfl⟩
    go_wp2_with fail
    refine (awake_any _).mono ?_
    rintro e w7 ⟨rfl, hb7⟩
    go_wp2_with fail
    go_ret
    exact ⟨rfl, below_trans (below_draws w _) hb7⟩
  | c :: r9 =>
    clear h0
    have he : (bs (c :: r9)).toList.isEmpty = false := bs_isEmpty _
    have hl9 : (bs (c :: r9)).size = r9.length + 1 := rfl
    have hl10 : r9.length ≤ 200 := by rw [List.length_cons] at hlen; omega
    have hx : (bs (c :: r9)).extract 1 (r9.length + 1) = bs r9 := by
      rw [bs_extract]
      simp
    have hy : (bs (c :: r9))[0].toNat = c.toNat := rfl
    clear hlen
    go_enter Try.func8, Try.ntmps8
    go_wp2_with fail
    refine (cut_any s0 200 _ (by omega) (by omega) hs0).mono ?_
    rintro e w' ⟨rfl, rfl⟩
    rw [show ((200 : Int)).toNat = 200 from rfl, ← HL.out]
    go_wp2_with fail
    refine (takeUint_of (bs (c :: r9)) T1.out _ hs).mono ?_
    rintro e w' ⟨rfl, n1, rfl⟩
    go_wp2_with fail
    refine (refTakeUint_of (bs (c :: r9)) T1.out _ hs).mono ?_
    rintro e w' ⟨rfl, n2, rfl⟩
    go_wp2_with fail
    refine (takeInt_of (bs (c :: r9)) T2.out _ hs).mono ?_
    rintro e w' ⟨rfl, n3, rfl⟩
    go_wp2_with fail
    refine (refTakeInt_of (bs (c :: r9)) T2.out _ hs).mono ?_
    rintro e w' ⟨rfl, n4, rfl⟩
    go_wp2_with fail
    refine (takeMost_of (bs (c :: r9)) most T3.out _ hs hm1 hm2).mono ?_
    rintro e w' ⟨rfl, n5, rfl⟩
    go_wp2_with fail
    refine (refTakeMost_of (bs (c :: r9)) most T3.out _ hs hm1 hm2).mono ?_
    rintro e w' ⟨rfl, n6, rfl⟩
    go_wp2_with fail
    refine (takeText_of (bs (c :: r9)) most T4.out _ hs hm1 hm2).mono ?_
    rintro e w' ⟨rfl, n7, rfl⟩
    go_wp2_with fail
    refine (refTakeText_of (bs (c :: r9)) most T4.out _ hs hm1 hm2).mono ?_
    rintro e w' ⟨rfl, n8, rfl⟩
    go_wp2_with fail
    refine (takeByte_some (bs (c :: r9)) _ c r9 hs rfl).mono ?_
    rintro e w' ⟨rfl, n9, rfl⟩
    go_wp2_with fail
    refine (awake_any _).mono ?_
    rintro e w7 ⟨rfl, hb7⟩
    go_wp2_with fail
    go_ret
    exact ⟨rfl, below_trans (below_draws w _) hb7⟩

set_option maxRecDepth 100000 in
theorem lebTakes_lifted (os : Os) (started : os.Started) (H : Type) (enc : TypeId × Value → H) :
    ReturnsInHanded {} Try.checked os 8 .any (Rows.lebTakesSpec.pre6 enc Try.prog Try.f8 Rows.lebTakesRow.domain false) (Rows.lebTakesSpec.post enc Try.prog Try.f8 false true false false) := by
  refine returnsInHanded_of_change_sized (C := Try.checked) law_own started (by kernel_rfl) Try.func8
    (ChangeSpec.witness6 (enc := enc) (C := Try.checked) false ⟨#[], #[.string ByteArray.empty, .int .i64 0], []⟩ 8 (by kernel_rfl) (by kernel_rfl) (by kernel_rfl) (by kernel_rfl)) ?_
  intro W base args ds gs before hval0 hW _ hsz0 _
  have hval : ∀ (j : Nat) t v, Try.f8.params[j]? = some t → args[j]? = some v → Value.okWide Try.prog W .any base t v := hval0
  have hsz : (DataW.weightsEach Try.prog (Try.f8.params.toList ++ Rows.lebTakesSpec.plain.varTypes Try.prog) (ds ++ gs)).all (· ≤ reachBytes) = true := hsz0
  have hW' := hW
  obtain ⟨p, q, hA0, hV, rfl, _, _⟩ := hW
  have hA : DataW.TrodAll enc Try.prog W 0 (fun _ => true) true Try.f8.params.toList args.toList ds p := hA0
  rw [Try.params8] at hA hval hsz
  obtain ⟨v0, vs0, d0, ds0, p0, q0, hargs, rfl, rfl, h0, r0⟩ := trodAll_cons hA
  obtain ⟨v1, vs1, d1, ds1, p1, q1, rfl, rfl, rfl, h1, r1⟩ := trodAll_cons r0
  obtain ⟨rfl, rfl, rfl⟩ := trodAll_nil r1
  obtain rfl : args = #[v0, v1] := by cases args; simp_all
  obtain ⟨rfl, rfl⟩ := trodVars_none hV
  obtain ⟨a0, rfl, rfl, rfl, w0⟩ := open_string Try.underlying9 (hval 0 9 v0 rfl rfl) h0
  obtain ⟨a1, rfl, rfl, rfl, w1⟩ := open_int Try.underlying3 (hval 1 3 v1 rfl rfl) h1
  refine (lebTakes_walk a0 w0 a1 w1 W).mono fun e W' ⟨he, hb⟩ => ?_
  subst he
  exact ⟨_, rfl, law_post law_laid (by intro t ht; rw [Try.params8] at ht; simp only [List.mem_cons, List.not_mem_nil, or_false] at ht; rcases ht with rfl | rfl <;> exact ⟨by kernel_rfl, of_decide_eq_true (by kernel_rfl)⟩) rfl Try.underlying4 rfl rfl hW' hb⟩

theorem lebTakes_holds : Rows.LebTakesSaid :=
  OpenClaim.holds_of_wide 8 Try.f8 rfl rfl rfl rfl rfl rfl rfl ⟨rfl, rfl, rfl, rfl, rfl⟩ rfl rfl rfl rfl rfl (by kernel_rfl) Try.func8 (by kernel_rfl)
    (of_decide_eq_true (by kernel_rfl)) (by unfold Func.isWrapper; first | (rw [if_pos (by decide +kernel)]; kernel_rfl) | (rw [if_neg (by decide +kernel)]; exact ⟨rfl, rfl⟩))
    (fun os started H enc _ => lebTakes_lifted os started H enc)


end Go.Proofs.Ytedhkndeomihdaa
