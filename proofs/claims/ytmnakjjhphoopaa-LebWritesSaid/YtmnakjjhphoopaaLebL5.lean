/-
  Layer 1: LebWrites: numbers and texts are written as the page says.
-/
import Derived.Test.YtmnakjjhphoopaaLebR
import Derived.Test.YtmnakjjhphoopaaLib2
import Derived.Test.YtmnakjjhphoopaaRows
import Derived.Test.YtmnakjjhphoopaaLib7
namespace Go.Proofs.Ytmnakjjhphoopaa
open Go.RowKit Go.Bar Go.Bar.Leb Go.ChangeShapes Go.WideShapes Go.ChangeAt
open Go.ChangeMaps (open_string shut_string)

theorem law_own : ownKnob Try.prog.godebug = none := by kernel_rfl
theorem law_laid : laidOutB Try.prog = true := by kernel_rfl

theorem atK_get {M : List (Nat × ((Nat → Bool) → World → Prop))} {j : Nat} {D : Nat → Bool} {w : World} {p : (Nat → Bool) → World → Prop} (h : Dk.atK M j D w) (hM : M.lookup j = some p) : p D w := by
  unfold Dk.atK at h
  rw [hM] at h
  exact h
/-- R: which operations append to b -/
def RW : Nat → World → World → Prop := fun i w w' => i ≠ 4 → i ≠ 15 → i ≠ 26 → Below w.heap.size w w'
/-- a fact of a buffer, until operation m is done -/
def KB (m : Nat) (e : TypeId) (xs : List UInt8) : Value → (Nat → Bool) → World → Prop := fun v D w => D m = false → BBuf w e v xs
theorem KB.keep {ops : Array Oper} {k m : Nat} {e : TypeId} {xs : List UInt8} (h4 : (4 == k) = true ∨ preB ops 4 m = true ∨ preB ops k 4 = true) (h15 : (15 == k) = true ∨ preB ops 15 m = true ∨ preB ops k 15 = true) (h26 : (26 == k) = true ∨ preB ops 26 m = true ∨ preB ops k 26 = true) :
    ∀ i D v w w', D i = false → D k = true → (∀ j, preB ops i j = true → D j = true) → (∀ k j, D k = true → preB ops k j = true → D j = true) → RW i w w' → KB m e xs v D w → KB m e xs v (Dn.upd D i) w' := by
  intro i D v w w' hi hk hpre hcl hR hg hu
  by_cases him : i = m
  · subst him; rw [Dn.upd_self] at hu; cases hu
  · rw [Dn.upd_ne D (fun h => him h.symm)] at hu
    have hno : ∀ x, (x == k) = true ∨ preB ops x m = true ∨ preB ops k x = true → i ≠ x := by
      rintro x hx rfl
      rcases hx with h | h | h
      · rw [beq_iff_eq] at h; subst h; rw [hi] at hk; cases hk
      · rw [hpre m h] at hu; cases hu
      · rw [hcl k i hk h] at hi; cases hi
    exact (hg hu).below (hR (hno 4 h4) (hno 15 h15) (hno 26 h26))
theorem KB.pure {m : Nat} {e : TypeId} {xs : List UInt8} {i : Nat} {D : Nat → Bool} {v : Value} {w : World} (h : KB m e xs v D w) : KB m e xs v (Dn.upd D i) w := by
  intro hu
  by_cases him : m = i
  · subst him; rw [Dn.upd_self] at hu; cases hu
  · rw [Dn.upd_ne D him] at hu; exact h hu

set_option maxHeartbeats 20000000 in
set_option maxRecDepth 100000 in
theorem lebWrites_walk (n0 : Int) (hn0 : (Lit.int .u64 n0).wf = true) (v : Int) (hv0 : (Lit.int .i64 v).wf = true) (s0 : ByteArray) (hs0 : s0.size ≤ maxLen) (t0 : ByteArray) (ht0 : t0.size ≤ maxLen) (w : World) :
    Calls Try.prog 17 #[.int .u64 n0, .int .i64 v, .string s0, .string t0] w (RetBelow w (.bool true)) := by
  have hn' := bounds_u64 hn0
  obtain ⟨hv1, hv2⟩ := bounds_i64 hv0
  clear hn0 hv0
  obtain ⟨n, rfl⟩ : ∃ n : Nat, n0 = n := ⟨n0.toNat, by omega⟩
  have hn : n < 18446744073709551616 := by omega
  clear hn'
  have hlen : (s0.data.toList.take 200).length ≤ 200 := List.length_take_le _ _
  have hlen2 : (t0.data.toList.take 50).length ≤ 50 := List.length_take_le _ _
  obtain ⟨l, hl⟩ : ∃ l, l = s0.data.toList.take 200 := ⟨_, rfl⟩
  obtain ⟨t, ht⟩ : ∃ l, l = t0.data.toList.take 50 := ⟨_, rfl⟩
  rw [← hl] at hlen
  rw [← ht] at hlen2
  have HL := Lib.hid hl
  have HM := Lib.hid ht
  clear hl ht
  have hul := u_len n hn
  have hul2 := u_len l.length (by omega)
  have hul3 := u_len (fold v) (fold_lt v hv1 hv2)
  have hs : (bs l).size ≤ maxLen := by rw [bs_size]; unfold maxLen; omega
  go_enter Try.func17, Try.ntmps17
  go_wp2_with fail
  refine (cut_any s0 200 _ (by omega) (by omega) hs0).mono ?_
  rintro e w' ⟨rfl, rfl⟩
  rw [show ((200 : Int)).toNat = 200 from rfl, ← HL.out]
  go_wp2_with fail
  refine (cut_any t0 50 _ (by omega) (by omega) ht0).mono ?_
  rintro e w' ⟨rfl, rfl⟩
  rw [show ((50 : Int)).toNat = 50 from rfl, ← HM.out]
  go_wp2_with (with_reducible refine wpList_bytes rfl (.tmp 14) 28 9 rfl bytes_ty Try.underlying9 (bs t) rfl (by rw [bs_size]; unfold maxLen; omega) ?_; intro b w1 hb1 hbl1 hown1)
  rw [bs_data] at hb1
  have hc1 : ∀ w, BBuf w 5 b t → Calls Try.prog 60 #[b, .int .u64 n] w (RetB w b 5 t (u n)) := fun w hb => uint_any b t n w hn (by omega) hb
  have hc2 : ∀ w, Calls Try.prog 61 #[.int .u64 n] w (RetBelow w (.string (bs (u n)))) := fun w => refUint_any n w hn
  have hc3 : ∀ w, BBuf w 5 b t → Calls Try.prog 62 #[b, .int .i64 v] w (RetB w b 5 t (u (fold v))) := fun w hb => int_any b t v w hv1 hv2 (by omega) hb
  have hc4 : ∀ w, Calls Try.prog 63 #[.int .i64 v] w (RetBelow w (.string (bs (u (fold v))))) := fun w => refInt_any v w hv1 hv2
  have hc5 : ∀ w, BBuf w 5 b t → Calls Try.prog 64 #[b, .string (bs l)] w (RetB w b 5 t (u l.length ++ l)) := fun w hb => text_any b t (bs l) w hs (by rw [bs_size]; omega) hb
  have hc6 : ∀ w, Calls Try.prog 65 #[.string (bs l)] w (RetBelow w (.string (bs (u l.length ++ l)))) := fun w => refText_any (bs l) w (by rw [bs_size]; omega)
  have hx3l : (u l.length ++ l).length ≤ 210 := by rw [List.length_append]; omega
  obtain ⟨x1, hx1⟩ : ∃ x, x = u n := ⟨_, rfl⟩
  obtain ⟨x2, hx2⟩ : ∃ x, x = u (fold v) := ⟨_, rfl⟩
  obtain ⟨x3, hx3⟩ : ∃ x, x = u l.length ++ l := ⟨_, rfl⟩
  rw [← hx1] at hc1 hc2 hul
  rw [← hx2] at hc3 hc4 hul3
  rw [← hx3] at hc5 hc6 hx3l
  have n1 : ¬ 9223372036854775807 < t.length + x1.length := by omega
  have n2 : ¬ 9223372036854775807 < t.length + x2.length := by omega
  have n3 : ¬ 9223372036854775807 < t.length + x3.length := by omega
  have H1 := Lib.hid hc1
  have H2 := Lib.hid hc2
  have H3 := Lib.hid hc3
  have H4 := Lib.hid hc4
  have H5 := Lib.hid hc5
  have H6 := Lib.hid hc6
  clear hc1 hc2 hc3 hc4 hc5 hc6 hx1 hx2 hx3
  refine Dk.wp_region_chain (fun k => List.lookup k [(0, (isV (.bool true), Dk.noK)), (4, ((fun _ => True), KB 5 5 (t ++ x1))), (5, (isV (.string (bs (t ++ x1))), Dk.noK)), (8, (isV (.string (bs x1)), Dk.noK)),
      (15, ((fun _ => True), KB 16 5 (t ++ x2))), (16, (isV (.string (bs (t ++ x2))), Dk.noK)), (19, (isV (.string (bs x2)), Dk.noK)),
      (26, ((fun _ => True), KB 27 5 (t ++ x3))), (27, (isV (.string (bs (t ++ x3))), Dk.noK)), (30, (isV (.string (bs x3)), Dk.noK)), (36, (isV (.string (bs t)), Dk.noK))]) RW (fun _ w' => BBuf w' 5 b t ∧ Below w.heap.size w w') (by kernel_rfl) 56 (by kernel_rfl) rfl ?_ ?_ ?_ ?_ ?_ ?_
  · apply Dk.lookup_all (p := fun _ (g : (Value → Prop) × (Value → (Nat → Bool) → World → Prop)) => ∃ v, g.1 v)
    simp only [List.forall_mem_cons, List.not_mem_nil, false_imp_iff, implies_true, and_true]
    exact ⟨⟨_, rfl⟩, ⟨undef, trivial⟩, ⟨_, rfl⟩, ⟨_, rfl⟩, ⟨undef, trivial⟩, ⟨_, rfl⟩, ⟨_, rfl⟩, ⟨undef, trivial⟩, ⟨_, rfl⟩, ⟨_, rfl⟩, ⟨_, rfl⟩⟩
  · refine Dk.lookup_all ?_
    simp only [List.forall_mem_cons, List.not_mem_nil, false_imp_iff, implies_true, and_true]
    refine ⟨?_, ?_, ?_, ?_, ?_, ?_, ?_, ?_, ?_, ?_, ?_⟩
    all_goals first
      | exact fun _ _ _ _ _ _ _ _ _ _ _ => trivial
      | exact KB.keep (.inl rfl) (.inr (.inl (by kernel_rfl))) (.inr (.inl (by kernel_rfl)))
      | exact KB.keep (.inr (.inr (by kernel_rfl))) (.inl rfl) (.inr (.inl (by kernel_rfl)))
      | exact KB.keep (.inr (.inr (by kernel_rfl))) (.inr (.inr (by kernel_rfl))) (.inl rfl)
  · refine Dk.lookup_all ?_
    simp only [List.forall_mem_cons, List.not_mem_nil, false_imp_iff, implies_true, and_true]
    refine ⟨?_, ?_, ?_, ?_, ?_, ?_, ?_, ?_, ?_, ?_, ?_⟩
    all_goals first
      | exact fun _ _ _ _ _ _ => trivial
      | exact fun _ _ _ _ _ h => KB.pure h
  · exact fun _ _ _ _ h => h
  · exact ⟨hb1.drew, hbl1.drew⟩
  refine Dk.Chain.weaken (F := Dk.atK []) (fun _ _ _ _ => trivial) ?_
  repeat
    first
    | (refine Dk.Chain.step (v := ?_) (a' := ?_) rfl rfl rfl ?_ ?_ ?_
       rotate_left 2
       focus (intro w; go_simp; try with_reducible rfl)
       focus (simp only [Act.put, List.setIfInBounds_toArray, List.set_cons_succ, List.set_cons_zero]; try rfl))
    | (refine Dk.Chain.call (a' := ?_) _ rfl rfl rfl rfl (fun D wx hx hD hF => ?_) ?_ ?_
       rotate_left 1
       focus
         first
         | (go_simp; (first | (with_reducible refine (awake_any wx).mono ?_) | (with_reducible refine (H2.out wx).mono ?_) | (with_reducible refine (H4.out wx).mono ?_) | (with_reducible refine (H6.out wx).mono ?_)); exact (fun e w' ⟨h1, h2⟩ => by subst h1; exact ⟨rfl, fun _ _ _ => h2, hx.1.below h2, below_trans hx.2 h2⟩))
         | (have hcv := BBuf.string bytes_ty hx.1 9 Try.underlying9; go_simp; exact (fun _ _ _ => Below.refl _ _ : RW _ wx wx))
         | (have hcv := BBuf.string bytes_ty ((show KB 5 5 (t ++ x1) vk D wx from atK_get (hF 4 (by kernel_rfl)).2 rfl) hD) 9 Try.underlying9; go_simp; exact (fun _ _ _ => Below.refl _ _ : RW _ wx wx))
         | (have hcv := BBuf.string bytes_ty ((show KB 16 5 (t ++ x2) vk D wx from atK_get (hF 15 (by kernel_rfl)).2 rfl) hD) 9 Try.underlying9; go_simp; exact (fun _ _ _ => Below.refl _ _ : RW _ wx wx))
         | (have hcv := BBuf.string bytes_ty ((show KB 27 5 (t ++ x3) vk D wx from atK_get (hF 26 (by kernel_rfl)).2 rfl) hD) 9 Try.underlying9; go_simp; exact (fun _ _ _ => Below.refl _ _ : RW _ wx wx))
       focus (simp only [Act.put, List.setIfInBounds_toArray, List.set_cons_succ, List.set_cons_zero]; try rfl))
    | (refine Dk.Chain.make _ _ rfl rfl rfl (fun D wx hx hD hF => ?_) (fun vk hvk a' ha => ?_)
       focus
         go_simp
         first | (with_reducible refine (H1.out wx hx.1).mono ?_) | (with_reducible refine (H3.out wx hx.1).mono ?_) | (with_reducible refine (H5.out wx hx.1).mono ?_)
         rintro e w' ⟨v3, rfl, h3⟩
         have hRW : RW 4 wx w' ∧ RW 15 wx w' ∧ RW 26 wx w' := ⟨fun h _ _ => absurd rfl h, fun _ h _ => absurd rfl h, fun _ _ h => absurd rfl h⟩
         obtain ⟨r1, r2, r3⟩ := hRW
         have k1 := h3.self
         have k2 := h3.from_ hx.2 hown1
         have k3 := h3.buf
         first
         | exact ⟨v3, rfl, by assumption, ⟨k1, k2⟩, trivial, fun _ => k3⟩
         | exact ⟨by assumption, ⟨k1, k2⟩, trivial, fun _ => k3⟩
         | exact ⟨by assumption, ⟨k1, k2⟩, fun _ => k3⟩
         | exact ⟨by assumption, k1, k2, fun _ => k3⟩
       simp only [Act.put, List.setIfInBounds_toArray, List.set_cons_succ, List.set_cons_zero] at ha
       subst ha)
  refine Dk.Chain.end_ (fun D w9 hD hX => ?_)
  have hb9 := hX.2
  clear hX hD
  go_wp2_with fail
  go_ret
  exact ⟨rfl, hb9⟩

set_option maxRecDepth 100000 in
theorem lebWrites_lifted (os : Os) (started : os.Started) (H : Type) (enc : TypeId × Value → H) :
    ReturnsInHanded {} Try.checked os 17 .any (Rows.lebWritesSpec.pre6 enc Try.prog Try.f17 Rows.lebWritesRow.domain false) (Rows.lebWritesSpec.post enc Try.prog Try.f17 false true false false) := by
  refine returnsInHanded_of_change_sized (C := Try.checked) law_own started (by kernel_rfl) Try.func17
    (ChangeSpec.witness6 (enc := enc) (C := Try.checked) false ⟨#[], #[.int .u64 0, .int .i64 0, .string ByteArray.empty, .string ByteArray.empty], []⟩ 8 (by kernel_rfl) (by kernel_rfl) (by kernel_rfl) (by kernel_rfl)) ?_
  intro W base args ds gs before hval0 hW _ hsz0 _
  have hval : ∀ (j : Nat) t v, Try.f17.params[j]? = some t → args[j]? = some v → Value.okWide Try.prog W .any base t v := hval0
  have hsz : (DataW.weightsEach Try.prog (Try.f17.params.toList ++ Rows.lebWritesSpec.plain.varTypes Try.prog) (ds ++ gs)).all (· ≤ reachBytes) = true := hsz0
  have hW' := hW
  obtain ⟨p, q, hA0, hV, rfl, _, _⟩ := hW
  have hA : DataW.TrodAll enc Try.prog W 0 (fun _ => true) true Try.f17.params.toList args.toList ds p := hA0
  rw [Try.params17] at hA hval hsz
  obtain ⟨v0, vs0, d0, ds0, p0, q0, hargs, rfl, rfl, h0, r0⟩ := trodAll_cons hA
  obtain ⟨v1, vs1, d1, ds1, p1, q1, rfl, rfl, rfl, h1, r1⟩ := trodAll_cons r0
  obtain ⟨v2, vs2, d2, ds2, p2, q2, rfl, rfl, rfl, h2, r2⟩ := trodAll_cons r1
  obtain ⟨v3, vs3, d3, ds3, p3, q3, rfl, rfl, rfl, h3, r3⟩ := trodAll_cons r2
  obtain ⟨rfl, rfl, rfl⟩ := trodAll_nil r3
  obtain rfl : args = #[v0, v1, v2, v3] := by cases args; simp_all
  obtain ⟨rfl, rfl⟩ := trodVars_none hV
  obtain ⟨a0, rfl, rfl, rfl, w0⟩ := open_int Try.underlying99 (hval 0 99 v0 rfl rfl) h0
  obtain ⟨a1, rfl, rfl, rfl, w1⟩ := open_int Try.underlying2 (hval 1 2 v1 rfl rfl) h1
  obtain ⟨a2, rfl, rfl, rfl, w2⟩ := open_string Try.underlying9 (hval 2 9 v2 rfl rfl) h2
  obtain ⟨a3, rfl, rfl, rfl, w3⟩ := open_string Try.underlying9 (hval 3 9 v3 rfl rfl) h3
  refine (lebWrites_walk a0 w0 a1 w1 a2 w2 a3 w3 W).mono fun e W' ⟨he, hb⟩ => ?_
  subst he
  exact ⟨_, rfl, law_post law_laid (by intro t ht; rw [Try.params17] at ht; simp only [List.mem_cons, List.not_mem_nil, or_false] at ht; rcases ht with rfl | rfl | rfl | rfl <;> exact ⟨by kernel_rfl, of_decide_eq_true (by kernel_rfl)⟩) rfl Try.underlying4 rfl rfl hW' hb⟩

theorem lebWrites_holds : Rows.LebWritesSaid :=
  OpenClaim.holds_of_wide 17 Try.f17 rfl rfl rfl rfl rfl rfl rfl ⟨rfl, rfl, rfl, rfl, rfl⟩ rfl rfl rfl rfl rfl (by kernel_rfl) Try.func17 (by kernel_rfl)
    (of_decide_eq_true (by kernel_rfl)) (by unfold Func.isWrapper; first | (rw [if_pos (by decide +kernel)]; kernel_rfl) | (rw [if_neg (by decide +kernel)]; exact ⟨rfl, rfl⟩))
    (fun os started H enc _ => lebWrites_lifted os started H enc)

end Go.Proofs.Ytmnakjjhphoopaa
