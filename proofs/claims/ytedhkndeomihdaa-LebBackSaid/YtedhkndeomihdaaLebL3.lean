/-
  Layer 1: LebBack: what is written is taken again.
-/
import Derived.Test.YtedhkndeomihdaaLebR
import Derived.Test.YtedhkndeomihdaaLib2
import Derived.Test.YtedhkndeomihdaaRows
namespace Go.Proofs.Ytedhkndeomihdaa
open Go.RowKit Go.Bar Go.Bar.Leb Go.ChangeShapes Go.WideShapes Go.ChangeAt
open Go.ChangeMaps (open_string shut_string)

theorem law_own : ownKnob Try.prog.godebug = none := by kernel_rfl
theorem law_laid : laidOutB Try.prog = true := by kernel_rfl

theorem back_list (n : Nat) (v : Int) (l t : List UInt8) : u n ++ u (fold v) ++ (u l.length ++ l) ++ t = u n ++ (u (fold v) ++ (u l.length ++ l ++ t)) := by simp [List.append_assoc]
theorem takeI_u (v : Int) (r : List UInt8) (h1 : -9223372036854775808 ≤ v) (h2 : v ≤ 9223372036854775807) : takeI (u (fold v) ++ r) = (v, r, 0) := by
  unfold takeI
  rw [takeU_u (fold v) r (fold_lt v h1 h2)]
  simp only [unfold_fold]

set_option maxHeartbeats 1000000 in
set_option maxRecDepth 10000 in
theorem lebBack_walk (n0 : Int) (hn0 : (Lit.int .u64 n0).wf = true) (v : Int) (hv0 : (Lit.int .i64 v).wf = true) (s0 : ByteArray) (hs0 : s0.size ≤ maxLen) (t0 : ByteArray) (ht0 : t0.size ≤ maxLen) (w : World) :
    Calls Try.prog 7 #[.int .u64 n0, .int .i64 v, .string s0, .string t0] w (RetBelow w (.bool true)) := by
  have hn' := bounds_u64 hn0
  obtain ⟨hv1, hv2⟩ := bounds_i64 hv0
  clear hn0 hv0
  obtain ⟨n, rfl⟩ : ∃ n : Nat, n0 = n := ⟨n0.toNat, by omega⟩
  have hn : n < 18446744073709551616 := by omega
  clear hn'
  have hlen : (s0.data.toList.take 200).length ≤ 200 := List.length_take_le _ _
  have hlen2 : (t0.data.toList.take 50).length ≤ 50 := List.length_take_le _ _
  obtain ⟨l, hl⟩ : ∃ l, l = s0.data.toList.take 200 := ⟨_, rfl⟩
  obtain ⟨t, ht⟩ : ∃ l, l = t0.data.toList.take 50 := ⟨_, rfl⟩
  rw [← hl] at hlen
  rw [← ht] at hlen2
  have HL := Lib.hid hl
  have HM := Lib.hid ht
  clear hl ht
  have hul := u_len n hn
  have hul2 := u_len l.length (by omega)
  have hul3 := u_len (fold v) (fold_lt v hv1 hv2)
  have hs : (bs l).size ≤ maxLen := by rw [bs_size]; unfold maxLen; omega
  go_enter Try.func7, Try.ntmps7
  go_wp2_with fail
  refine (cut_any s0 200 _ (by omega) (by omega) hs0).mono ?_
  rintro e w' ⟨rfl, rfl⟩
  rw [show ((200 : Int)).toNat = 200 from rfl, ← HL.out]
  go_wp2_with fail
  refine (cut_any t0 50 _ (by omega) (by omega) ht0).mono ?_
  rintro e w' ⟨rfl, rfl⟩
  rw [show ((50 : Int)).toNat = 50 from rfl, ← HM.out]
  go_wp2_with fail
  refine (uint_any (.slice none 0 0) [] n _ hn (by simp) (BBuf.nil _ _)).mono ?_
  rintro e w1 ⟨v1, rfl, h1⟩
  go_wp2_with fail
  refine (int_any v1 ([] ++ u n) v _ hv1 hv2 (by rw [List.nil_append]; omega) h1.buf).mono ?_
  rintro e w2 ⟨v2, rfl, h2⟩
  have h12 := h1.trans h2
  clear h1 h2
  go_wp2_with fail
  refine (text_any v2 ([] ++ (u n ++ u (fold v))) (bs l) _ hs (by rw [List.nil_append, List.length_append, bs_size]; omega) h12.buf).mono ?_
  rintro e w3 ⟨v3, rfl, h3⟩
  have h13 := h12.trans h3
  clear h12 h3
  have hc1 := h13.buf.string bytes_ty 9 Try.underlying9
  rw [bs_size, bs_data, List.nil_append] at hc1
  have hb3 := h13.nil_below
  clear h13
  have hsum : (u n ++ u (fold v) ++ (u l.length ++ l)).length ≤ 300 := by simp only [List.length_append]; omega
  obtain ⟨r2, hr2⟩ : ∃ r, r = u l.length ++ l ++ t := ⟨_, rfl⟩
  obtain ⟨r1, hr1⟩ : ∃ r, r = u (fold v) ++ r2 := ⟨_, rfl⟩
  have hl2 : r2.length ≤ 300 := by rw [hr2]; simp only [List.length_append]; omega
  have hl1 : r1.length ≤ 400 := by rw [hr1]; simp only [List.length_append]; omega
  have t3 : takeText (bs r2).data.toList 200 = (l, t, 0) := by rw [bs_data, hr2]; exact takeText_text l t 200 (by omega) (by omega)
  have t2 : takeI (bs r1).data.toList = (v, r2, 0) := by rw [bs_data, hr1]; exact takeI_u v _ hv1 hv2
  obtain ⟨al, hal⟩ : ∃ al, al = u n ++ u (fold v) ++ (u l.length ++ l) := ⟨_, rfl⟩
  have t1 : takeU (bs (al ++ t)).data.toList = (n, r1, 0) := by rw [bs_data, hal, back_list, ← hr2, ← hr1]; exact takeU_u n _ hn
  rw [← hal] at hc1 hsum
  have T1 := Lib.hid t1
  have T2 := Lib.hid t2
  have T3 := Lib.hid t3
  clear hr1 hr2 hal t1 t2 t3
  go_wp2_with fail
  refine (takeUint_of (bs (al ++ t)) T1.out _ (by rw [bs_size, List.length_append]; unfold maxLen; omega)).mono ?_
  rintro e w4 ⟨rfl, n4, rfl⟩
  go_wp2_with fail
  refine (takeInt_of (bs r1) T2.out _ (by rw [bs_size]; unfold maxLen; omega)).mono ?_
  rintro e w5 ⟨rfl, n5, rfl⟩
  go_wp2_with fail
  refine (takeText_of (bs r2) 200 T3.out _ (by rw [bs_size]; unfold maxLen; omega) (by omega) (by omega)).mono ?_
  rintro e w6 ⟨rfl, n6, rfl⟩
  go_wp2_with fail
  refine (awake_any _).mono ?_
  rintro e w7 ⟨rfl, hb7⟩
  go_wp2_with fail
  go_ret
  exact ⟨rfl, below_trans (below_drewN hb3 _) hb7⟩

set_option maxRecDepth 100000 in
theorem lebBack_lifted (os : Os) (started : os.Started) (H : Type) (enc : TypeId × Value → H) :
    ReturnsInHanded {} Try.checked os 7 .any (Rows.lebBackSpec.pre6 enc Try.prog Try.f7 Rows.lebBackRow.domain false) (Rows.lebBackSpec.post enc Try.prog Try.f7 false true false false) := by
  refine returnsInHanded_of_change_sized (C := Try.checked) law_own started (by kernel_rfl) Try.func7
    (ChangeSpec.witness6 (enc := enc) (C := Try.checked) false ⟨#[], #[.int .u64 0, .int .i64 0, .string ByteArray.empty, .string ByteArray.empty], []⟩ 8 (by kernel_rfl) (by kernel_rfl) (by kernel_rfl) (by kernel_rfl)) ?_
  intro W base args ds gs before hval0 hW _ hsz0 _
  have hval : ∀ (j : Nat) t v, Try.f7.params[j]? = some t → args[j]? = some v → Value.okWide Try.prog W .any base t v := hval0
  have hsz : (DataW.weightsEach Try.prog (Try.f7.params.toList ++ Rows.lebBackSpec.plain.varTypes Try.prog) (ds ++ gs)).all (· ≤ reachBytes) = true := hsz0
  have hW' := hW
  obtain ⟨p, q, hA0, hV, rfl, _, _⟩ := hW
  have hA : DataW.TrodAll enc Try.prog W 0 (fun _ => true) true Try.f7.params.toList args.toList ds p := hA0
  rw [Try.params7] at hA hval hsz
  obtain ⟨v0, vs0, d0, ds0, p0, q0, hargs, rfl, rfl, h0, r0⟩ := trodAll_cons hA
  obtain ⟨v1, vs1, d1, ds1, p1, q1, rfl, rfl, rfl, h1, r1⟩ := trodAll_cons r0
  obtain ⟨v2, vs2, d2, ds2, p2, q2, rfl, rfl, rfl, h2, r2⟩ := trodAll_cons r1
  obtain ⟨v3, vs3, d3, ds3, p3, q3, rfl, rfl, rfl, h3, r3⟩ := trodAll_cons r2
  obtain ⟨rfl, rfl, rfl⟩ := trodAll_nil r3
  obtain rfl : args = #[v0, v1, v2, v3] := by cases args; simp_all
  obtain ⟨rfl, rfl⟩ := trodVars_none hV
  obtain ⟨a0, rfl, rfl, rfl, w0⟩ := open_int Try.underlying22 (hval 0 22 v0 rfl rfl) h0
  obtain ⟨a1, rfl, rfl, rfl, w1⟩ := open_int Try.underlying2 (hval 1 2 v1 rfl rfl) h1
  obtain ⟨a2, rfl, rfl, rfl, w2⟩ := open_string Try.underlying9 (hval 2 9 v2 rfl rfl) h2
  obtain ⟨a3, rfl, rfl, rfl, w3⟩ := open_string Try.underlying9 (hval 3 9 v3 rfl rfl) h3
  refine (lebBack_walk a0 w0 a1 w1 a2 w2 a3 w3 W).mono fun e W' ⟨he, hb⟩ => ?_
  subst he
  exact ⟨_, rfl, law_post law_laid (by intro t ht; rw [Try.params7] at ht; simp only [List.mem_cons, List.not_mem_nil, or_false] at ht; rcases ht with rfl | rfl | rfl | rfl <;> exact ⟨by kernel_rfl, of_decide_eq_true (by kernel_rfl)⟩) rfl Try.underlying4 rfl rfl hW' hb⟩

theorem lebBack_holds : Rows.LebBackSaid :=
  OpenClaim.holds_of_wide 7 Try.f7 rfl rfl rfl rfl rfl rfl rfl ⟨rfl, rfl, rfl, rfl, rfl⟩ rfl rfl rfl rfl rfl (by kernel_rfl) Try.func7 (by kernel_rfl)
    (of_decide_eq_true (by kernel_rfl)) (by unfold Func.isWrapper; first | (rw [if_pos (by decide +kernel)]; kernel_rfl) | (rw [if_neg (by decide +kernel)]; exact ⟨rfl, rfl⟩))
    (fun os started H enc _ => lebBack_lifted os started H enc)


end Go.Proofs.Ytedhkndeomihdaa
