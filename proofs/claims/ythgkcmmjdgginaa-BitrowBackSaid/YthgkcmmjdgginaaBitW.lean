/-
  Layer 3: new rows and new eyes (of a law's own), and awake.
-/
import Derived.Test.YthgkcmmjdgginaaBitE
import Derived.Test.YthgkcmmjdgginaaBitR
namespace Go.Proofs.Ythgkcmmjdgginaa
open Go.RowKit Go.Bar Go.Bar.Bit

/-- a row that was made after w0 -/
structure RowNew (w0 w : World) (b : Nat) (v : Value) (l : List Bool) : Prop where
  at_ : RowAt w b 0 v l
  below : Below w0.heap.size w0 w
  b_new : w0.heap.size ≤ b
  v_new : ∀ k, v.ownBlock = some k → w0.heap.size ≤ k
/-- an eye that was made after w0 -/
structure EyeNew (w0 w : World) (b : Nat) (L : List Bool) (p e : Nat) : Prop where
  at_ : EyeAt w b 0 L p e
  below : Below w0.heap.size w0 w
  b_new : w0.heap.size ≤ b

theorem RowNew.start {w0 w : World} (h : Below w0.heap.size w0 w) (t : TypeId) : RowNew w0 (w.alloc (.cells #[.slice none 0 0, .int .i64 0] t)) w.heap.size (.slice none 0 0) [] := by
  refine ⟨⟨?_, ?_, ?_, ?_, BBuf.nil _ _, by simp [Value.ownBlock], by simp [Value.ownBlock]⟩, h.alloc h.size _, h.size, by simp [Value.ownBlock]⟩
  · rw [World.cell?_alloc_new]; rfl
  · rw [World.cell?_alloc_new]; rfl
  · exact World.frozen?_alloc_new w _ _ _
  · exact World.frozen?_alloc_new w _ _ _
theorem RowNew.step {w0 w w' : World} {b : Nat} {v : Value} {l l' : List Bool} (h : RowNew w0 w b v l) {e : Ending} (h' : RowTo w b 0 v l' e w') : e = .returned (.tuple #[]) ∧ ∃ v', RowNew w0 w' b v' l' := by
  obtain ⟨v', he, ha, hf, hm⟩ := h'
  refine ⟨he, v', ha, h.below.trans (hf.below h.below.size ?_), h.b_new, ?_⟩
  · rintro k i hk (⟨rfl, _⟩ | hS)
    · exact absurd h.b_new (by omega)
    · exact absurd (h.v_new k hS) (by omega)
  · intro k hk
    rcases hm with e1 | ⟨g, e1, hg⟩
    · exact h.v_new k (by rw [← e1]; exact hk)
    · rw [e1] at hk; injection hk with hk
      have := h.below.size
      omega
theorem RowAt.keep {S : Nat → Nat → Prop} {w w' : World} {b : Nat} {v : Value} {l : List Bool} (h : RowAt w b 0 v l) (hf : Fr S w w') (h1 : ∀ i, ¬ S b i) (h2 : ∀ k i, v.ownBlock = some k → ¬ S k i) : RowAt w' b 0 v l :=
  ⟨hf.cell h.c0 (h1 _), hf.cell h.c1 (h1 _), hf.free h.c0 h.f0, hf.free h.c1 h.f1, hf.buf h.buf h2, h.ne, fun k hk => Nat.lt_of_lt_of_le (h.lt k hk) hf.size⟩
theorem RowNew.then_below {w0 w w' : World} {b : Nat} {v : Value} {l : List Bool} (h : RowNew w0 w b v l) (hb : Below w.heap.size w w') : RowNew w0 w' b v l := by
  have hf : Fr (fun _ _ => False) w w' := Fr.of_below hb
  exact ⟨h.at_.keep hf (fun _ => id) (fun _ _ _ => id), h.below.trans (hb.mono h.below.size), h.b_new, h.v_new⟩
theorem RowNew.drewN {w0 w : World} {b : Nat} {v : Value} {l : List Bool} (h : RowNew w0 w b v l) (n : Nat) : RowNew w0 (w.drewN n) b v l := h.then_below (below_draws _ _)
theorem EyeNew.then_below {w0 w w' : World} {b : Nat} {L : List Bool} {p e : Nat} (h : EyeNew w0 w b L p e) (hb : Below w.heap.size w w') : EyeNew w0 w' b L p e := by
  have hf : Fr (fun _ _ => False) w w' := Fr.of_below hb
  exact ⟨h.at_.keep hf (fun _ _ _ => id), h.below.trans (hb.mono h.below.size), h.b_new⟩
theorem EyeNew.step {w0 w w' : World} {b : Nat} {L : List Bool} {p e p' e' : Nat} {v : Value} (h : EyeNew w0 w b L p e) {en : Ending} (h' : EyeTo w b 0 L v p' e' en w') : en = .returned v ∧ EyeNew w0 w' b L p' e' := by
  obtain ⟨he, ha, hf⟩ := h'
  refine ⟨he, ha, h.below.trans (hf.below h.below.size ?_), h.b_new⟩
  rintro k i hk ⟨rfl, _⟩
  exact absurd h.b_new (by omega)
theorem EyeNew.start {w0 w w' : World} {L : List Bool} (h : Below w0.heap.size w0 w) (ha : EyeAt w' w.heap.size 0 L 0 0) (hb : Below w.heap.size w w') : EyeNew w0 w' w.heap.size L 0 0 :=
  ⟨ha, h.trans (hb.mono h.size), h.size⟩

theorem awake_l3 : [] ++ bitsOf 5 (clip 3) = [true, false, true] := by decide +kernel
theorem awake_l5 : [true, false, true] ++ [true] ++ unary 2 4 = [true, false, true, true, true, true, false] := by decide +kernel
theorem awake_pack : pack [true, false, true, true, true, true, false] = [188] := by decide +kernel
theorem awake_of : (unpack [188]).take (clipTo 7 (8 * [(188 : UInt8)].length)) = [true, false, true, true, true, true, false] := by decide +kernel
theorem awake_b : eyeBits [true, false, true, true, true, true, false] 0 0 3 = (5, 3, 0) := by decide +kernel
theorem awake_o : eyeBit [true, false, true, true, true, true, false] 3 0 = (true, 4, 0) := by decide +kernel
theorem awake_u : eyeUnary [true, false, true, true, true, true, false] 4 0 4 = (2, 7, 0) := by decide +kernel
theorem awake_w : width 300 = 9 := by simp [width]

set_option maxHeartbeats 1000000 in
set_option maxRecDepth 10000 in
theorem awake_any (W : World) :
    Calls Try.prog 9 #[] W (RetBelow W (.bool true)) := by
  go_enter Try.func9, Try.ntmps9
  go_wp2_with fail
  have h0 := RowNew.start (Below.refl _ W) 25
  refine (rowBits_any _ 0 _ [] 5 3 _ (by omega) (by omega) (by omega) h0.at_ (by simp)).mono ?_
  rintro e w1 h1
  obtain ⟨rfl, v1, h1⟩ := h0.step h1
  rw [awake_l3] at h1
  clear h0
  go_wp2_with fail
  refine (rowBit_any _ 0 v1 [true, false, true] true _ h1.at_ (by simp)).mono ?_
  rintro e w2 h2
  obtain ⟨rfl, v2, h2⟩ := h1.step h2
  clear h1
  go_wp2_with fail
  refine (rowUnary_any _ 0 v2 _ 2 4 _ (by omega) (by omega) (by omega) (by omega) h2.at_ (by simp)).mono ?_
  rintro e w3 h3
  obtain ⟨rfl, v3, h3⟩ := h2.step h3
  rw [awake_l5] at h3
  clear h2
  go_wp2_with fail
  refine (rowText_any _ 0 v3 _ _ h3.at_).mono ?_
  rintro e w' ⟨rfl, rfl⟩
  rw [awake_pack]
  go_wp2_with fail
  refine (rowLen_any _ 0 v3 _ _ h3.at_).mono ?_
  rintro e w' ⟨rfl, rfl⟩
  go_wp2_with fail
  refine (over_any [188] 7 _ (by omega) (by omega) (by simp)).mono ?_
  rintro e w4 ⟨rfl, h4, h5⟩
  rw [awake_of] at h4
  have h4 := EyeNew.start h3.below h4 h5
  have h3 := h3.then_below h5
  clear h5
  go_wp2_with fail
  refine (rowText_any _ 0 v3 _ _ h3.at_).mono ?_
  rintro e w' ⟨rfl, rfl⟩
  rw [awake_pack]
  go_wp2_with fail
  refine (rowLen_any _ 0 v3 _ _ h3.at_).mono ?_
  rintro e w' ⟨rfl, rfl⟩
  go_wp2_with fail
  refine (eyeBits_any _ 0 _ 0 0 3 _ h4.at_ (by simp) (by omega) (by omega)).mono ?_
  rintro e w5 g5
  obtain ⟨rfl, h5⟩ := h4.step g5
  clear g5
  rw [awake_b] at h5 ⊢
  simp only [] at h5
  clear h3 h4
  go_wp2_with fail
  refine (eyeBit_any _ 0 _ 3 0 _ h5.at_ (by simp)).mono ?_
  rintro e w6 g6
  obtain ⟨rfl, h6⟩ := h5.step g6
  clear g6
  rw [awake_o] at h6 ⊢
  simp only [] at h6
  clear h5
  go_wp2_with fail
  refine (eyeUnary_any _ 0 _ 4 0 4 _ h6.at_ (by simp) (by omega)).mono ?_
  rintro e w7 g7
  obtain ⟨rfl, h7⟩ := h6.step g7
  clear g7
  rw [awake_u] at h7 ⊢
  simp only [] at h7
  clear h6
  go_wp2_with fail
  refine (eyeLeft_any _ 0 _ 7 0 _ h7.at_ (by simp)).mono ?_
  rintro e w8 ⟨rfl, n8, rfl⟩
  have h7 := h7.then_below (below_draws _ n8)
  go_wp2_with fail
  refine (width_any 300 _ (by omega)).mono ?_
  rintro e w9 ⟨rfl, rfl⟩
  rw [awake_w]
  go_wp2_with fail
  go_ret
  exact ⟨rfl, h7.below⟩

end Go.Proofs.Ythgkcmmjdgginaa
