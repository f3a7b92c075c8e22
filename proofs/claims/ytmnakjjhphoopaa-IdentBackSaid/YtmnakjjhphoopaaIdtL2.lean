/-
  Layer 8: IdentBack.
-/
import Derived.Test.YtmnakjjhphoopaaIdtL
import Derived.Test.YtmnakjjhphoopaaRows
namespace Go.Proofs.Ytmnakjjhphoopaa
open Go.RowKit Go.Bar Go.Bar.Idt Go.ChangeShapes Go.WideShapes Go.ChangeAt
open Go.ChangeMaps (open_string shut_string)

theorem and3_of (n : Int) : bits .and .i64 n 3 = 0 ∨ bits .and .i64 n 3 = 1 ∨ bits .and .i64 n 3 = 2 ∨ bits .and .i64 n 3 = 3 := by
  have e : bits .and .i64 n 3 = IntKind.i64.wrap ((BitVec.ofInt 64 n &&& BitVec.ofInt 64 3).toNat : Int) := rfl
  have h3 : (BitVec.ofInt 64 3).toNat = 2 ^ 2 - 1 := by decide
  rw [BitVec.toNat_and, h3, Nat.and_two_pow_sub_one_eq_mod, IntKind.wrap_i64] at e
  omega

set_option maxHeartbeats 1000000 in
theorem object_any (m p : List UInt8) (w : World) (hm : m.length ≤ 16) (hp : p.length ≤ 16) :
    Calls Try.prog 39 #[.string (bs m), .string (bs p)] w fun e w' => e = .returned (.string (bs (m ++ 47 :: p))) ∧ w = w' := by
  have h1 : ¬ 9223372036854775807 < m.length + [(47 : UInt8)].length := by simp; omega
  have h2 : ¬ 9223372036854775807 < m.length + 1 := by omega
  have h3 : ¬ 9223372036854775807 < m.length + 1 + p.length := by omega
  go_enter Try.func39, Try.ntmps39
  go_wp2_with fail
  go_ret
  exact ⟨by rw [show m ++ 47 :: p = (m ++ [47]) ++ p by simp, ← bs_append, ← bs_append]; rfl, rfl⟩

theorem split_obj (t s : Nat) (ht : t < 32 ^ 8) (hs : s < 32 ^ 8) (p : List UInt8) (hp : p ∈ parts) : split (mk t s ++ 47 :: p) = some (mk t s, p) := by
  have hl := mk_length t s
  have e1 : (mk t s ++ 47 :: p).take 16 = mk t s := by rw [List.take_append_of_le_length (by omega), List.take_of_length_le (by omega)]
  have e2 : (mk t s ++ 47 :: p).drop 17 = p := by rw [List.drop_append, List.drop_of_length_le (by omega), hl]; rfl
  have e3 : (mk t s ++ 47 :: p)[16]? = some 47 := by rw [List.getElem?_append_right (by omega), hl]; rfl
  unfold split
  rw [e1, e2, e3, parse_mk t s ht hs, if_pos ⟨by rw [List.length_append, hl, List.length_cons]; omega, rfl, rfl, hp⟩]

set_option maxHeartbeats 4000000 in
set_option maxRecDepth 10000 in
theorem identBack_walk (a : Int) (_ha : (Lit.int .i64 a).wf = true) (b : Int) (_hb : (Lit.int .i64 b).wf = true) (c : Int) (_hc : (Lit.int .i64 c).wf = true) (w : World) :
    Calls Try.prog 11 #[.int .i64 a, .int .i64 b, .int .i64 c] w (RetBelow w (.bool true)) := by
  obtain ⟨m, e, ok, hm, hml, h1⟩ := make_any a b
  have H1 := Lib.hid h1
  clear h1 _ha _hb _hc
  rcases hm with ⟨g1, g2, g3, rfl, _⟩ | ⟨_, _, rfl, _⟩
  · have hp : ∀ w, Calls Try.prog 34 #[.string (bs m)] w fun e w' => e = .returned (.tuple #[.int .i64 a, .int .i64 b, .int .i64 0]) ∧ w = w' := fun w => by
      have := parse_any m w (by omega)
      rw [g3, parse_mk _ _ (by have := g1.1; have := g1.2; omega) (by have := g2.1; have := g2.2; omega)] at this
      simp only [parseV] at this
      rw [Int.toNat_of_nonneg g1.1, Int.toNat_of_nonneg g2.1] at this
      rw [g3]
      exact this
    have hs : ∀ p, p ∈ parts → ∀ w, Calls Try.prog 36 #[.string (bs (m ++ 47 :: p))] w (Quiet w (.tuple #[.string (bs m), .string (bs p), .bool true])) := fun p hp w => by
      have hpl : p.length ≤ 16 := by
        have : ∀ q ∈ parts, q.length ≤ 16 := by decide
        exact this p hp
      have := split_any (m ++ 47 :: p) w (by rw [List.length_append, List.length_cons]; omega)
      rw [g3, split_obj _ _ (by have := g1.1; have := g1.2; omega) (by have := g2.1; have := g2.2; omega) p hp] at this
      rw [g3]
      exact this
    have hm16 : m.length = 16 := by rw [g3, mk_length]
    have HP := Lib.hid hp
    have HS := Lib.hid hs
    have HO := Lib.hid (fun p w hp => object_any m p w hml hp)
    clear hp hs g1 g2 g3
    rcases and3_of c with h3 | h3 | h3 | h3
    all_goals
      go_enter Try.func11, Try.ntmps11
      go_wp2_with fail
      refine (H1.out _).mono ?_
      rintro e w1 ⟨rfl, hb1⟩
      go_wp2_with fail
      refine (awake8_any _).mono ?_
      rintro e w2 ⟨rfl, hb2⟩
      go_wp2_with fail
      refine (HP.out _).mono ?_
      rintro e w' ⟨rfl, rfl⟩
      go_wp2_with fail
      first
        | refine (HO.out [99, 104, 117, 110, 107, 115] _ (by decide)).mono ?_
        | refine (HO.out [105, 110, 100, 101, 120] _ (by decide)).mono ?_
        | refine (HO.out [109, 101, 116, 97] _ (by decide)).mono ?_
        | refine (HO.out [109, 97, 114, 107] _ (by decide)).mono ?_
      rintro e w' ⟨rfl, rfl⟩
      go_wp2_with fail
      refine (HS.out _ (by decide) _).mono ?_
      rintro e w' ⟨rfl, n, rfl⟩
      go_wp2_with fail
      go_ret
      exact ⟨rfl, below_drewN ((below_trans hb1 hb2).alloc (below_trans hb1 hb2).size _) n⟩
  · go_enter Try.func11, Try.ntmps11
    go_wp2_with fail
    refine (H1.out _).mono ?_
    rintro e w1 ⟨rfl, hb1⟩
    go_wp2_with fail
    refine (awake8_any _).mono ?_
    rintro e w2 ⟨rfl, hb2⟩
    go_wp2_with fail
    refine (awake8_any _).mono ?_
    rintro e w3 ⟨rfl, hb3⟩
    go_wp2_with fail
    go_ret
    exact ⟨rfl, below_trans (below_trans hb1 hb2) hb3⟩

set_option maxRecDepth 100000 in
theorem identBack_lifted (os : Os) (started : os.Started) (H : Type) (enc : TypeId × Value → H) :
    ReturnsInHanded {} Try.checked os 11 .any (Rows.identBackSpec.pre6 enc Try.prog Try.f11 Rows.identBackRow.domain false) (Rows.identBackSpec.post enc Try.prog Try.f11 false true false false) := by
  refine returnsInHanded_of_change_sized (C := Try.checked) law_own started (by kernel_rfl) Try.func11
    (ChangeSpec.witness6 (enc := enc) (C := Try.checked) false ⟨#[], #[.int .i64 0, .int .i64 0, .int .i64 0], []⟩ 8 (by kernel_rfl) (by kernel_rfl) (by kernel_rfl) (by kernel_rfl)) ?_
  intro W base args ds gs before hval0 hW _ hsz0 _
  have hval : ∀ (j : Nat) t v, Try.f11.params[j]? = some t → args[j]? = some v → Value.okWide Try.prog W .any base t v := hval0
  have hsz : (DataW.weightsEach Try.prog (Try.f11.params.toList ++ Rows.identBackSpec.plain.varTypes Try.prog) (ds ++ gs)).all (· ≤ reachBytes) = true := hsz0
  have hW' := hW
  obtain ⟨p, q, hA0, hV, rfl, _, _⟩ := hW
  have hA : DataW.TrodAll enc Try.prog W 0 (fun _ => true) true Try.f11.params.toList args.toList ds p := hA0
  rw [Try.params11] at hA hval hsz
  obtain ⟨v0, vs0, d0, ds0, p0, q0, hargs, rfl, rfl, h0, r0⟩ := trodAll_cons hA
  obtain ⟨v1, vs1, d1, ds1, p1, q1, rfl, rfl, rfl, h1, r1⟩ := trodAll_cons r0
  obtain ⟨v2, vs2, d2, ds2, p2, q2, rfl, rfl, rfl, h2, r2⟩ := trodAll_cons r1
  obtain ⟨rfl, rfl, rfl⟩ := trodAll_nil r2
  obtain rfl : args = #[v0, v1, v2] := by cases args; simp_all
  obtain ⟨rfl, rfl⟩ := trodVars_none hV
  obtain ⟨a0, rfl, rfl, rfl, w0⟩ := open_int Try.underlying3 (hval 0 3 v0 rfl rfl) h0
  obtain ⟨a1, rfl, rfl, rfl, w1⟩ := open_int Try.underlying3 (hval 1 3 v1 rfl rfl) h1
  obtain ⟨a2, rfl, rfl, rfl, w2⟩ := open_int Try.underlying3 (hval 2 3 v2 rfl rfl) h2
  refine (identBack_walk a0 w0 a1 w1 a2 w2 W).mono fun e W' ⟨he, hb⟩ => ?_
  subst he
  exact ⟨_, rfl, law_post law_laid (by intro t ht; rw [Try.params11] at ht; simp only [List.mem_cons, List.not_mem_nil, or_false] at ht; rcases ht with rfl | rfl | rfl <;> exact ⟨by kernel_rfl, of_decide_eq_true (by kernel_rfl)⟩) rfl Try.underlying4 rfl rfl hW' hb⟩

theorem identBack_holds : Rows.IdentBackSaid :=
  OpenClaim.holds_of_wide 11 Try.f11 rfl rfl rfl rfl rfl rfl rfl ⟨rfl, rfl, rfl, rfl, rfl⟩ rfl rfl rfl rfl rfl (by kernel_rfl) Try.func11 (by kernel_rfl)
    (of_decide_eq_true (by kernel_rfl)) (by unfold Func.isWrapper; first | (rw [if_pos (by decide +kernel)]; kernel_rfl) | (rw [if_neg (by decide +kernel)]; exact ⟨rfl, rfl⟩))
    (fun os started H enc _ => identBack_lifted os started H enc)

end Go.Proofs.Ytmnakjjhphoopaa
