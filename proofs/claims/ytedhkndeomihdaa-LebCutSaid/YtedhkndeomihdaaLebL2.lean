/-
  Layer 1: LebCut: bytes that are cut off end too soon.
-/
import Derived.Test.YtedhkndeomihdaaLebR
import Derived.Test.YtedhkndeomihdaaLib2
import Derived.Test.YtedhkndeomihdaaRows
namespace Go.Proofs.Ytedhkndeomihdaa
open Go.RowKit Go.Bar Go.Bar.Leb Go.ChangeShapes Go.WideShapes Go.ChangeAt
open Go.ChangeMaps (open_string shut_string)

theorem law_own : ownKnob Try.prog.godebug = none := by kernel_rfl
theorem law_laid : laidOutB Try.prog = true := by kernel_rfl

set_option maxHeartbeats 1000000 in
set_option maxRecDepth 10000 in
theorem lebCut_walk (n0 : Int) (hn0 : (Lit.int .u64 n0).wf = true) (s0 : ByteArray) (hs0 : s0.size ≤ maxLen) (cut : Int) (hcut : (Lit.int .i64 cut).wf = true) (w : World) :
    Calls Try.prog 6 #[.int .u64 n0, .string s0, .int .i64 cut] w (RetBelow w (.bool true)) := by
  have hn' := bounds_u64 hn0
  have hc' := bounds_i64 hcut
  clear hn0 hcut
  obtain ⟨n, rfl⟩ : ∃ n : Nat, n0 = n := ⟨n0.toNat, by omega⟩
  have hn : n < 18446744073709551616 := by omega
  clear hn'
  have hlen : (s0.data.toList.take 100).length ≤ 100 := List.length_take_le _ _
  obtain ⟨l, hl⟩ : ∃ l, l = s0.data.toList.take 100 := ⟨_, rfl⟩
  rw [← hl] at hlen
  have HL := Lib.hid hl
  clear hl
  have hs : (bs l).size ≤ maxLen := by rw [bs_size]; unfold maxLen; omega
  have hul := u_len n hn
  have hul2 := u_len l.length (by omega)
  by_cases h0 : cut < 0
  · go_enter Try.func6, Try.ntmps6
    go_wp2_with fail
    refine (cut_any s0 100 _ (by omega) (by omega) hs0).mono ?_
    rintro e w' ⟨rfl, rfl⟩
    rw [show ((100 : Int)).toNat = 100 from rfl, ← HL.out]
    go_wp2_with fail
    refine (uint_any (.slice none 0 0) [] n _ hn (by simp) (BBuf.nil _ _)).mono ?_
    rintro e w1 ⟨v1, rfl, h1⟩
    go_wp2_with fail
    refine (text_any (.slice none 0 0) [] (bs l) _ hs (by rw [bs_size]; simp; omega) (BBuf.nil _ _)).mono ?_
    rintro e w2 ⟨v2, rfl, h2⟩
    go_wp2_with fail
    refine (awake_any _).mono ?_
    rintro e w3 ⟨rfl, hb3⟩
    go_wp2_with fail
    refine (awake_any _).mono ?_
    rintro e w4 ⟨rfl, hb4⟩
    go_wp2_with fail
    go_ret
    exact ⟨rfl, below_trans (below_trans (below_trans h1.nil_below h2.nil_below) hb3) hb4⟩
  · obtain ⟨k, rfl⟩ : ∃ k : Nat, cut = k := ⟨cut.toNat, by omega⟩
    clear h0 hc'
    by_cases hk1 : k < (u n).length
    all_goals by_cases hk2 : k < (u l.length).length + l.length
    · go_enter Try.func6, Try.ntmps6
      go_wp2_with fail
      refine (cut_any s0 100 _ (by omega) (by omega) hs0).mono ?_
      rintro e w' ⟨rfl, rfl⟩
      rw [show ((100 : Int)).toNat = 100 from rfl, ← HL.out]
      go_wp2_with fail
      refine (uint_any (.slice none 0 0) [] n _ hn (by simp) (BBuf.nil _ _)).mono ?_
      rintro e w1 ⟨v1, rfl, h1⟩
      go_wp2_with fail
      refine (text_any (.slice none 0 0) [] (bs l) _ hs (by rw [bs_size]; simp; omega) (BBuf.nil _ _)).mono ?_
      rintro e w2 ⟨v2, rfl, h2⟩
      go_wp2_with fail
      refine (awake_any _).mono ?_
      rintro e w3 ⟨rfl, hb3⟩
      have b1 := (h1.buf.below h2.nil_below).below hb3
      have b2 := h2.buf.below hb3
      rw [List.nil_append] at b1 b2
      rw [bs_size, bs_data] at b2
      have hbl := below_trans (below_trans h1.nil_below h2.nil_below) hb3
      obtain ⟨A1, c1, rfl, hl1⟩ := Buf.shape b1
      obtain ⟨A2, c2, rfl, hl2⟩ := Buf.shape b2
      rw [List.length_append] at hl2
      clear h1 h2 hb3
      have hc1 := (b1.prefix_ k (by omega)).string bytes_ty 9 Try.underlying9
      clear b1
      go_wp2_with fail
      refine (takeUint_of (bs ((u n).take k)) (takeU_cut n k hn hk1) _ (by rw [bs_size]; have := List.length_take_le k (u n); unfold maxLen; omega)).mono ?_
      rintro e w4 ⟨rfl, n4, rfl⟩
      have hc2 := ((b2.prefix_ k (by rw [List.length_append]; omega)).below (below_draws w3 n4)).string bytes_ty 9 Try.underlying9
      clear hc1 b2
      go_wp2_with fail
      refine (takeText_of (bs ((u l.length ++ l).take k)) 100 (takeText_cut l k 100 (by omega) (by omega) hk2) _ (by rw [bs_size]; have := List.length_take_le k (u l.length ++ l); unfold maxLen; omega) (by omega) (by omega)).mono ?_
      rintro e w5 ⟨rfl, n5, rfl⟩
      go_wp2_with fail
      go_ret
      exact ⟨rfl, below_drewN hbl _⟩
    · go_enter Try.func6, Try.ntmps6
      go_wp2_with fail
      refine (cut_any s0 100 _ (by omega) (by omega) hs0).mono ?_
      rintro e w' ⟨rfl, rfl⟩
      rw [show ((100 : Int)).toNat = 100 from rfl, ← HL.out]
      go_wp2_with fail
      refine (uint_any (.slice none 0 0) [] n _ hn (by simp) (BBuf.nil _ _)).mono ?_
      rintro e w1 ⟨v1, rfl, h1⟩
      go_wp2_with fail
      refine (text_any (.slice none 0 0) [] (bs l) _ hs (by rw [bs_size]; simp; omega) (BBuf.nil _ _)).mono ?_
      rintro e w2 ⟨v2, rfl, h2⟩
      go_wp2_with fail
      refine (awake_any _).mono ?_
      rintro e w3 ⟨rfl, hb3⟩
      have b1 := (h1.buf.below h2.nil_below).below hb3
      have b2 := h2.buf.below hb3
      rw [List.nil_append] at b1 b2
      rw [bs_size, bs_data] at b2
      have hbl := below_trans (below_trans h1.nil_below h2.nil_below) hb3
      obtain ⟨A1, c1, rfl, hl1⟩ := Buf.shape b1
      obtain ⟨A2, c2, rfl, hl2⟩ := Buf.shape b2
      rw [List.length_append] at hl2
      clear h1 h2 hb3
      have hc1 := (b1.prefix_ k (by omega)).string bytes_ty 9 Try.underlying9
      clear b1 b2
      go_wp2_with fail
      refine (takeUint_of (bs ((u n).take k)) (takeU_cut n k hn hk1) _ (by rw [bs_size]; have := List.length_take_le k (u n); unfold maxLen; omega)).mono ?_
      rintro e w4 ⟨rfl, n4, rfl⟩
      go_wp2_with fail
      go_ret
      exact ⟨rfl, below_drewN hbl _⟩
    · go_enter Try.func6, Try.ntmps6
      go_wp2_with fail
      refine (cut_any s0 100 _ (by omega) (by omega) hs0).mono ?_
      rintro e w' ⟨rfl, rfl⟩
      rw [show ((100 : Int)).toNat = 100 from rfl, ← HL.out]
      go_wp2_with fail
      refine (uint_any (.slice none 0 0) [] n _ hn (by simp) (BBuf.nil _ _)).mono ?_
      rintro e w1 ⟨v1, rfl, h1⟩
      go_wp2_with fail
      refine (text_any (.slice none 0 0) [] (bs l) _ hs (by rw [bs_size]; simp; omega) (BBuf.nil _ _)).mono ?_
      rintro e w2 ⟨v2, rfl, h2⟩
      go_wp2_with fail
      refine (awake_any _).mono ?_
      rintro e w3 ⟨rfl, hb3⟩
      have b1 := (h1.buf.below h2.nil_below).below hb3
      have b2 := h2.buf.below hb3
      rw [List.nil_append] at b1 b2
      rw [bs_size, bs_data] at b2
      have hbl := below_trans (below_trans h1.nil_below h2.nil_below) hb3
      obtain ⟨A1, c1, rfl, hl1⟩ := Buf.shape b1
      obtain ⟨A2, c2, rfl, hl2⟩ := Buf.shape b2
      rw [List.length_append] at hl2
      clear h1 h2 hb3
      have hc2 := (b2.prefix_ k (by rw [List.length_append]; omega)).string bytes_ty 9 Try.underlying9
      clear b1 b2
      go_wp2_with fail
      refine (takeText_of (bs ((u l.length ++ l).take k)) 100 (takeText_cut l k 100 (by omega) (by omega) hk2) _ (by rw [bs_size]; have := List.length_take_le k (u l.length ++ l); unfold maxLen; omega) (by omega) (by omega)).mono ?_
      rintro e w5 ⟨rfl, n5, rfl⟩
      go_wp2_with fail
      go_ret
      exact ⟨rfl, below_drewN hbl _⟩
    · go_enter Try.func6, Try.ntmps6
      go_wp2_with fail
      refine (cut_any s0 100 _ (by omega) (by omega) hs0).mono ?_
      rintro e w' ⟨rfl, rfl⟩
      rw [show ((100 : Int)).toNat = 100 from rfl, ← HL.out]
      go_wp2_with fail
      refine (uint_any (.slice none 0 0) [] n _ hn (by simp) (BBuf.nil _ _)).mono ?_
      rintro e w1 ⟨v1, rfl, h1⟩
      go_wp2_with fail
      refine (text_any (.slice none 0 0) [] (bs l) _ hs (by rw [bs_size]; simp; omega) (BBuf.nil _ _)).mono ?_
      rintro e w2 ⟨v2, rfl, h2⟩
      go_wp2_with fail
      refine (awake_any _).mono ?_
      rintro e w3 ⟨rfl, hb3⟩
      have b1 := (h1.buf.below h2.nil_below).below hb3
      have b2 := h2.buf.below hb3
      rw [List.nil_append] at b1 b2
      rw [bs_size, bs_data] at b2
      have hbl := below_trans (below_trans h1.nil_below h2.nil_below) hb3
      obtain ⟨A1, c1, rfl, hl1⟩ := Buf.shape b1
      obtain ⟨A2, c2, rfl, hl2⟩ := Buf.shape b2
      rw [List.length_append] at hl2
      clear h1 h2 hb3
      clear b1 b2
      go_wp2_with fail
      go_ret
      exact ⟨rfl, hbl⟩

set_option maxRecDepth 100000 in
theorem lebCut_lifted (os : Os) (started : os.Started) (H : Type) (enc : TypeId × Value → H) :
    ReturnsInHanded {} Try.checked os 6 .any (Rows.lebCutSpec.pre6 enc Try.prog Try.f6 Rows.lebCutRow.domain false) (Rows.lebCutSpec.post enc Try.prog Try.f6 false true false false) := by
  refine returnsInHanded_of_change_sized (C := Try.checked) law_own started (by kernel_rfl) Try.func6
    (ChangeSpec.witness6 (enc := enc) (C := Try.checked) false ⟨#[], #[.int .u64 0, .string ByteArray.empty, .int .i64 0], []⟩ 8 (by kernel_rfl) (by kernel_rfl) (by kernel_rfl) (by kernel_rfl)) ?_
  intro W base args ds gs before hval0 hW _ hsz0 _
  have hval : ∀ (j : Nat) t v, Try.f6.params[j]? = some t → args[j]? = some v → Value.okWide Try.prog W .any base t v := hval0
  have hsz : (DataW.weightsEach Try.prog (Try.f6.params.toList ++ Rows.lebCutSpec.plain.varTypes Try.prog) (ds ++ gs)).all (· ≤ reachBytes) = true := hsz0
  have hW' := hW
  obtain ⟨p, q, hA0, hV, rfl, _, _⟩ := hW
  have hA : DataW.TrodAll enc Try.prog W 0 (fun _ => true) true Try.f6.params.toList args.toList ds p := hA0
  rw [Try.params6] at hA hval hsz
  obtain ⟨v0, vs0, d0, ds0, p0, q0, hargs, rfl, rfl, h0, r0⟩ := trodAll_cons hA
  obtain ⟨v1, vs1, d1, ds1, p1, q1, rfl, rfl, rfl, h1, r1⟩ := trodAll_cons r0
  obtain ⟨v2, vs2, d2, ds2, p2, q2, rfl, rfl, rfl, h2, r2⟩ := trodAll_cons r1
  obtain ⟨rfl, rfl, rfl⟩ := trodAll_nil r2
  obtain rfl : args = #[v0, v1, v2] := by cases args; simp_all
  obtain ⟨rfl, rfl⟩ := trodVars_none hV
  obtain ⟨a0, rfl, rfl, rfl, w0⟩ := open_int Try.underlying22 (hval 0 22 v0 rfl rfl) h0
  obtain ⟨a1, rfl, rfl, rfl, w1⟩ := open_string Try.underlying9 (hval 1 9 v1 rfl rfl) h1
  obtain ⟨a2, rfl, rfl, rfl, w2⟩ := open_int Try.underlying3 (hval 2 3 v2 rfl rfl) h2
  refine (lebCut_walk a0 w0 a1 w1 a2 w2 W).mono fun e W' ⟨he, hb⟩ => ?_
  subst he
  exact ⟨_, rfl, law_post law_laid (by intro t ht; rw [Try.params6] at ht; simp only [List.mem_cons, List.not_mem_nil, or_false] at ht; rcases ht with rfl | rfl | rfl <;> exact ⟨by kernel_rfl, of_decide_eq_true (by kernel_rfl)⟩) rfl Try.underlying4 rfl rfl hW' hb⟩

theorem lebCut_holds : Rows.LebCutSaid :=
  OpenClaim.holds_of_wide 6 Try.f6 rfl rfl rfl rfl rfl rfl rfl ⟨rfl, rfl, rfl, rfl, rfl⟩ rfl rfl rfl rfl rfl (by kernel_rfl) Try.func6 (by kernel_rfl)
    (of_decide_eq_true (by kernel_rfl)) (by unfold Func.isWrapper; first | (rw [if_pos (by decide +kernel)]; kernel_rfl) | (rw [if_neg (by decide +kernel)]; exact ⟨rfl, rfl⟩))
    (fun os started H enc _ => lebCut_lifted os started H enc)


end Go.Proofs.Ytedhkndeomihdaa
