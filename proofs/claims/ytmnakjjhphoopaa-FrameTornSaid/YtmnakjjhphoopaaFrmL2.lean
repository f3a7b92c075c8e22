/-
  Layer 2: FrameTorn: records that are cut off anywhere are read to those that are whole.
-/
import Derived.Test.YtmnakjjhphoopaaFrmL
import Derived.Test.YtmnakjjhphoopaaRows
namespace Go.Proofs.Ytmnakjjhphoopaa
open Go.RowKit Go.Bar Go.Bar.Leb Go.Bar.Frm Go.ChangeShapes Go.WideShapes Go.ChangeAt
open Go.ChangeMaps (open_string shut_string)

/-- how many of the first k ends lie at or ahead of a place, the last one of these -/
def upTo (rs : List Rc) (cut k : Nat) : Nat × Nat := (min k (whole rs cut).1, (laid (rs.take (min k (whole rs cut).1))).length)
theorem whole_at : ∀ (rs : List Rc) (cut : Nat), (laid (rs.take (whole rs cut).1)).length = (whole rs cut).2
  | [], _ => rfl
  | r :: rs, cut => by
    rw [whole]
    split
    · have := whole_at rs (cut - (rec r).length)
      simp only [List.take_succ_cons, laid_cons, List.length_append]
      omega
    · rfl
theorem whole_iff : ∀ (rs : List Rc) (cut k : Nat), k < rs.length → ((laid (rs.take (k + 1))).length ≤ cut ↔ k < (whole rs cut).1)
  | [], _, _, h => by simp at h
  | r :: rs, cut, 0, h => by
    rw [whole]
    by_cases hl : (rec r).length ≤ cut
    · rw [if_pos hl]
      simp [laid]
      exact hl
    · rw [if_neg hl]
      simp [laid]
      omega
  | r :: rs, cut, k + 1, h => by
    have ih := whole_iff rs (cut - (rec r).length) k (by simpa using h)
    rw [whole, List.take_succ_cons, laid_cons, List.length_append]
    by_cases hl : (rec r).length ≤ cut
    · rw [if_pos hl]
      simp only
      constructor
      · intro hh
        have := ih.1 (by omega)
        omega
      · intro hh
        have := ih.2 (by omega)
        omega
    · rw [if_neg hl]
      constructor
      · intro hh
        omega
      · intro hh
        simp at hh
theorem ends_get {rs : List Rc} {k : Nat} (h : k < rs.length) : (ends rs)[k]? = some (laid (rs.take (k + 1))).length := by
  unfold ends
  rw [List.getElem?_map, List.getElem?_range h]
  rfl

set_option maxHeartbeats 2000000 in
set_option maxRecDepth 10000 in
theorem frameTorn_walk0 (v : Value) (rs0 : List Rc) (cut : Int) (hcut : (Lit.int .i64 cut).wf = true) (w : World) (h : RecsAt w v rs0 ∧ ∀ r ∈ rs0, r.2.length ≤ maxLen) :
    Calls Try.prog 6 #[v, .int .i64 cut] w (RetBelow w (.bool true)) := by
  obtain ⟨hc1, hc2⟩ := bounds_i64 hcut
  obtain ⟨rs, hrs⟩ : ∃ rs, rs = few rs0 := ⟨_, rfl⟩
  have hn := few_len rs0
  have hsh := few_short rs0
  rw [← hrs] at hn hsh
  obtain ⟨S, hS⟩ : ∃ S, S = laid rs := ⟨_, rfl⟩
  have hSl := laid_short rs hsh
  rw [← hS] at hSl
  have HS := Lib.hid hS
  have hfew := few_any v rs0 w h.1 h.2
  rw [← hrs] at hfew
  have HF := Lib.hid hfew
  clear hfew h hcut
  by_cases hgo : 0 ≤ cut ∧ cut ≤ S.length
  · obtain ⟨hg1, hg2⟩ := hgo
    obtain ⟨p, rfl⟩ : ∃ p : Nat, cut = p := ⟨cut.toNat, by omega⟩
    have hp : p ≤ S.length := by omega
    have ht := recs_torn rs p (fun r hr => Nat.le_trans (hsh r hr) (by omega)) (by rw [← hS]; exact hp)
    rw [← hS] at ht
    obtain ⟨W, hW⟩ : ∃ W, W = (whole rs p).1 := ⟨_, rfl⟩
    have hWn : W ≤ rs.length := by rw [hW]; exact whole_le _ _
    have hat := whole_at rs p
    have hiff := whole_iff rs p
    rw [← hW] at ht hat hiff
    rw [← hat] at ht
    have hleft := left_le (S.take p)
    have hall := fun w => all_of (l := S.take p) (n := (laid (rs.take W)).length) ht.1 rfl (by rw [List.length_take]; omega) w (by rw [List.length_take]; omega)
    have HA := Lib.hid hall
    have HI := Lib.hid hiff
    have hxe : (bs S).extract 0 p = bs (S.take p) := by rw [bs_extract, List.drop_zero, Nat.sub_zero]
    have hA2 : ∀ w, Calls Try.prog 24 #[.string ((bs S).extract 0 p)] w fun en w' => ∃ v, en = .returned (.tuple #[v, .int .i64 (laid (rs.take W)).length]) ∧ RecsAt w' v (rs.take W) ∧ Below w.heap.size w w' := fun w => by rw [hxe]; exact HA.out w
    have HA2 := Lib.hid hA2
    clear hA2 hxe HA hall hleft hiff hat hW ht hS hrs
    go_enter Try.func6, Try.ntmps6
    go_wp2_with fail
    refine HF.out.mono ?_
    rintro e w1 ⟨v1, rfl, hb1, hl1⟩
    have h1 : RecsAt w1 v1 rs := SlAt.of_buf hb1
    clear hb1
    go_wp2_with fail
    refine (laid_any v1 rs _ h1 hn hsh).mono ?_
    rintro e w2 ⟨v2, rfl, hb2⟩
    have h1 := h1.below hb2.below
    have hl2 := below_trans hl1 hb2.below
    have he2 := hb2.slice
    rw [← HS.out]
    rw [ends_length] at he2
    clear hb2 hl1
    obtain ⟨A1, c1, rfl, hc1l, hc1m⟩ := h1.shape
    obtain ⟨A2, c2, rfl, hc2l, hc2m⟩ := he2.shape
    go_wp2_with fail
    refine (awake2_any _).mono ?_
    rintro e w3 ⟨rfl, hb3⟩
    have h1 := h1.below hb3
    have he2 := he2.below hb3
    have hl3 := below_trans hl2 hb3
    clear hb3 hl2
    go_wp2_with fail
    go_loop [7, 8, 35] (fun m a i => ∃ k : Nat, k ≤ rs.length ∧ i = .int .i64 k ∧ m = .int .i64 (min k W : Nat) ∧ a = .int .i64 (laid (rs.take (min k W))).length) (fun _ _ i => rs.length - (intOf i).toNat)
    case atStart => exact ⟨0, Nat.zero_le _, rfl, by simp, by simp [laid]⟩
    case round =>
      obtain ⟨k, hk, rfl, rfl, rfl⟩ := hrel
      by_cases hkn : k < rs.length
      · have hx : (ics (ends rs))[k]? = some (.int .i64 (laid (rs.take (k + 1))).length) := by
          unfold ics
          rw [List.getElem?_map, ends_get hkn]
          rfl
        obtain ⟨b, o, rfl, hlt, hcell⟩ := he2.cells (by omega)
        have hck := hcell k _ hx
        have hi := HI.out k hkn
        have hEl := laid_short (rs.take (k + 1)) (fun r hr => hsh r (List.mem_of_mem_take hr))
        rw [List.length_take] at hEl
        obtain ⟨E, hE⟩ : ∃ E, E = (laid (rs.take (k + 1))).length := ⟨_, rfl⟩
        rw [← hE] at hck hi hEl
        have HE := Lib.hid hE
        have hci : (0 : Int) ≤ (k : Int) := by omega
        clear hcell hx hE
        by_cases hkW : k < W
        · have hle := hi.2 hkW
          have e1 : min k W = k := by omega
          have e2 : min (k + 1) W = k + 1 := by omega
          rw [e1]
          clear hi e1
          go_wp2_with fail
          go_round
          case rel => exact ⟨k + 1, by omega, by go_num, by rw [e2]; go_num, by rw [e2, ← HE.out]⟩
          case measure => simp [intOf]; omega
        · have hle : p < E := by
            rcases Nat.lt_or_ge p E with h | h
            · exact h
            · exact absurd (hi.1 h) hkW
          have e1 : min k W = W := by omega
          have e2 : min (k + 1) W = W := by omega
          rw [e1]
          clear hi e1
          go_wp2_with fail
          go_round
          case rel => exact ⟨k + 1, by omega, by go_num, by rw [e2], by rw [e2]⟩
          case measure => simp [intOf]; omega
      · obtain rfl : k = rs.length := by omega
        have e1 : min rs.length W = W := by omega
        rw [e1]
        clear e1
        go_wp2_with fail
        refine (HA2.out _).mono ?_
        rintro e w4 ⟨v4, rfl, h4, hb4⟩
        have h1 := h1.below hb4
        have hl4 := below_trans hl3 hb4
        have ht := (SlAt.take h1 W c1 hWn (by omega) hc1m : SlAt _ 2 _ W _)
        rw [rcs_take] at ht
        have ht : RecsAt w4 (.slice A1 W c1) (rs.take W) := by
          unfold RecsAt
          rw [List.length_take, Nat.min_eq_left hWn]
          exact ht
        clear hb4 hl3
        go_wp2_with fail
        refine (same_any v4 _ _ _ h4 ht).mono ?_
        rintro e w6 ⟨rfl, n6, rfl⟩
        go_wp2_with fail
        go_ret
        exact ⟨rfl, below_drewN hl4 n6⟩
  · have hend : cut < 0 ∨ 0 ≤ cut ∧ (S.length : Int) < cut := by omega
    clear hgo hS hrs
    rcases hend with hend | ⟨he1, hend⟩
    all_goals
      go_enter Try.func6, Try.ntmps6
      go_wp2_with fail
      refine HF.out.mono ?_
      rintro e w1 ⟨v1, rfl, hb1, hl1⟩
      have h1 : RecsAt w1 v1 rs := SlAt.of_buf hb1
      clear hb1
      go_wp2_with fail
      refine (laid_any v1 rs _ h1 hn hsh).mono ?_
      rintro e w2 ⟨v2, rfl, hb2⟩
      have hl2 := below_trans hl1 hb2.below
      rw [← HS.out]
      clear hb2 hl1
      go_wp2_with fail
      refine (awake2_any _).mono ?_
      rintro e w3 ⟨rfl, hb3⟩
      have hl3 := below_trans hl2 hb3
      clear hb3 hl2
      go_wp2_with fail
      refine (awake2_any _).mono ?_
      rintro e w4 ⟨rfl, hb4⟩
      go_wp2_with fail
      go_ret
      exact ⟨rfl, below_trans hl3 hb4⟩

set_option maxRecDepth 100000 in
theorem frameTorn_lifted (os : Os) (started : os.Started) (H : Type) (enc : TypeId × Value → H) :
    ReturnsInHanded {} Try.checked os 6 .any (Rows.frameTornSpec.pre6 enc Try.prog Try.f6 Rows.frameTornRow.domain false) (Rows.frameTornSpec.post enc Try.prog Try.f6 false true false false) := by
  refine returnsInHanded_of_change_sized (C := Try.checked) law_own started (by kernel_rfl) Try.func6
    (ChangeSpec.witness6 (enc := enc) (C := Try.checked) false ⟨#[], #[.slice none 0 0, .int .i64 0], []⟩ 8 (by kernel_rfl) (by kernel_rfl) (by kernel_rfl) (by kernel_rfl)) ?_
  intro W base args ds gs before hval0 hW _ hsz0 _
  have hval : ∀ (j : Nat) t v, Try.f6.params[j]? = some t → args[j]? = some v → Value.okWide Try.prog W .any base t v := hval0
  have hsz : (DataW.weightsEach Try.prog (Try.f6.params.toList ++ Rows.frameTornSpec.plain.varTypes Try.prog) (ds ++ gs)).all (· ≤ reachBytes) = true := hsz0
  have hW' := hW
  obtain ⟨p, q, hA0, hV, rfl, _, _⟩ := hW
  have hA : DataW.TrodAll enc Try.prog W 0 (fun _ => true) true Try.f6.params.toList args.toList ds p := hA0
  rw [Try.params6] at hA hval hsz
  obtain ⟨v0, vs0, d0, ds0, p0, q0, hargs, rfl, rfl, h0, r0⟩ := trodAll_cons hA
  obtain ⟨v1, vs1, d1, ds1, p1, q1, rfl, rfl, rfl, h1, r1⟩ := trodAll_cons r0
  obtain ⟨rfl, rfl, rfl⟩ := trodAll_nil r1
  obtain rfl : args = #[v0, v1] := by cases args; simp_all
  obtain ⟨rfl, rfl⟩ := trodVars_none hV
  obtain ⟨a1, rfl, rfl, rfl, w1⟩ := open_int Try.underlying3 (hval 1 3 v1 rfl rfl) h1
  obtain ⟨ts0, hts0⟩ := open_recs (hval 0 38 v0 rfl rfl) h0
  refine (frameTorn_walk0 v0 ts0 a1 w1 W hts0).mono fun e W' ⟨he, hb⟩ => ?_
  subst he
  exact ⟨_, rfl, law_post law_laid (by intro t ht; rw [Try.params6] at ht; simp only [List.mem_cons, List.not_mem_nil, or_false] at ht; rcases ht with rfl | rfl <;> exact ⟨by kernel_rfl, of_decide_eq_true (by kernel_rfl)⟩) rfl Try.underlying4 rfl rfl hW' hb⟩

theorem frameTorn_holds : Rows.FrameTornSaid :=
  OpenClaim.holds_of_wide 6 Try.f6 rfl rfl rfl rfl rfl rfl rfl ⟨rfl, rfl, rfl, rfl, rfl⟩ rfl rfl rfl rfl rfl (by kernel_rfl) Try.func6 (by kernel_rfl)
    (of_decide_eq_true (by kernel_rfl)) (by unfold Func.isWrapper; first | (rw [if_pos (by decide +kernel)]; kernel_rfl) | (rw [if_neg (by decide +kernel)]; exact ⟨rfl, rfl⟩))
    (fun os started H enc _ => frameTorn_lifted os started H enc)

end Go.Proofs.Ytmnakjjhphoopaa
