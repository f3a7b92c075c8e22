/-
  'x, y := a, b' into two variables in memory: two allocs that have no edges, two stores (operations 2, 3, 4, 5 of a region that draws its order). Plain lemmas over any program; no condition.
-/
import Derived.Test.YtgabmfibfikdbaaGreatDoorZLib8
import Derived.Test.YtgabmfibfikdbaaGreatDoorZLib10

namespace Go.Bar
open Go.RowKit

/-- how the world stands in the region: the first variable has CX once operation 4 is done, the second one CY once operation 5 is -/
structure X2 (W : World) (T : TypeId) (Z CX CY : Array Value) (vs : Nat → Value) (D : Nat → Bool) (w : World) : Prop where
  bel : Below W.heap.size W w
  fst : ∀ B, D 2 = true → vs 2 = .pointer (some ⟨B, 0, none⟩) → W.heap.size ≤ B ∧ (D 4 = false → Blk w B T Z) ∧ (D 4 = true → Blk w B T CX)
  snd : ∀ B, D 3 = true → vs 3 = .pointer (some ⟨B, 0, none⟩) → W.heap.size ≤ B ∧ (D 5 = false → Blk w B T Z) ∧ (D 5 = true → Blk w B T CY)
  ne : ∀ B B', D 2 = true → D 3 = true → vs 2 = .pointer (some ⟨B, 0, none⟩) → vs 3 = .pointer (some ⟨B', 0, none⟩) → B ≠ B'
  d4 : D 2 = false → D 4 = false
  d5 : D 3 = false → D 5 = false
section
variable {W w w' : World} {T : TypeId} {Z CX CY : Array Value} {vs : Nat → Value} {D : Nat → Bool}
theorem X2.congr : ∀ vs vs' D w, (∀ k, D k = true → vs k = vs' k) → X2 W T Z CX CY vs D w → X2 W T Z CX CY vs' D w := fun vs vs' D w h hX =>
  ⟨hX.bel, fun B h4 hv => hX.fst B h4 ((h 2 h4).trans hv), fun B h5 hv => hX.snd B h5 ((h 3 h5).trans hv), fun B B' h4 h5 hv hv' => hX.ne B B' h4 h5 ((h 2 h4).trans hv) ((h 3 h5).trans hv'), hX.d4, hX.d5⟩
theorem X2.start (W : World) (T : TypeId) (Z CX CY : Array Value) (vs : Nat → Value) : X2 W T Z CX CY vs (fun _ => false) W := ⟨Below.refl _ _, fun _ h => (by cases h), fun _ h => (by cases h), fun _ _ h => (by cases h), fun _ => rfl, fun _ => rfl⟩
theorem X2.low (h : X2 W T Z CX CY vs D w) {i : Nat} (hi : i < 2 ∨ 5 < i) (hb : Below w.heap.size w w') (v : Value) : X2 W T Z CX CY (Dv.updV vs i v) (Dn.upd D i) w' := by
  have e4 := Dn.upd_ne D (show 2 ≠ i by omega)
  have e5 := Dn.upd_ne D (show 3 ≠ i by omega)
  have e6 := Dn.upd_ne D (show 4 ≠ i by omega)
  have e7 := Dn.upd_ne D (show 5 ≠ i by omega)
  have u4 := Dv.updV_ne vs v (show 2 ≠ i by omega)
  have u5 := Dv.updV_ne vs v (show 3 ≠ i by omega)
  refine ⟨below_trans h.bel hb, fun B h4 hv => ?_, fun B h5 hv => ?_, fun B B' h4 h5 hv hv' => ?_, ?_, ?_⟩
  · rw [e4] at h4; rw [u4] at hv; rw [e6]
    obtain ⟨g1, g2, g3⟩ := h.fst B h4 hv
    exact ⟨g1, fun h => (g2 h).below hb, fun h => (g3 h).below hb⟩
  · rw [e5] at h5; rw [u5] at hv; rw [e7]
    obtain ⟨g1, g2, g3⟩ := h.snd B h5 hv
    exact ⟨g1, fun h => (g2 h).below hb, fun h => (g3 h).below hb⟩
  · rw [e4] at h4; rw [e5] at h5; rw [u4] at hv; rw [u5] at hv'
    exact h.ne B B' h4 h5 hv hv'
  · rw [e4, e6]; exact h.d4
  · rw [e5, e7]; exact h.d5
theorem ptr_inj2 {B B' : Nat} (h : Value.pointer (some ⟨B, 0, none⟩) = .pointer (some ⟨B', 0, none⟩)) : B = B' := by
  injection h with h
  injection h with h
  injection h
theorem X2.two (h : X2 W T Z CX CY vs D w) (hD : D 2 = false) : X2 W T Z CX CY (Dv.updV vs 2 (.pointer (some ⟨w.heap.size, 0, none⟩))) (Dn.upd D 2) (w.alloc (.cells Z T)) := by
  have hb : Below w.heap.size w (w.alloc (.cells Z T)) := (Below.refl _ _).alloc (Nat.le_refl _) _
  have e5 := Dn.upd_ne D (show 3 ≠ 2 by omega)
  have e6 := Dn.upd_ne D (show 4 ≠ 2 by omega)
  have e7 := Dn.upd_ne D (show 5 ≠ 2 by omega)
  have u5 := Dv.updV_ne vs (.pointer (some ⟨w.heap.size, 0, none⟩)) (show 3 ≠ 2 by omega)
  have h6 := h.d4 hD
  refine ⟨below_trans h.bel hb, fun B _ hv => ?_, fun B h5 hv => ?_, fun B B' _ h5 hv hv' => ?_, ?_, ?_⟩
  · rw [Dv.updV_self] at hv; rw [e6, h6]
    obtain rfl := ptr_inj2 hv
    exact ⟨h.bel.size, fun _ => Blk.new _ _ _, fun h => (by cases h)⟩
  · rw [e5] at h5; rw [u5] at hv; rw [e7]
    obtain ⟨g1, g2, g3⟩ := h.snd B h5 hv
    exact ⟨g1, fun h => (g2 h).below hb, fun h => (g3 h).below hb⟩
  · rw [e5] at h5; rw [Dv.updV_self] at hv; rw [u5] at hv'
    obtain ⟨g1, g2, g3⟩ := h.snd B' h5 hv'
    obtain rfl := ptr_inj2 hv
    have hlt : B' < w.heap.size := by
      rcases hd : D 5 with _ | _
      · exact (g2 hd).lt
      · exact (g3 hd).lt
    omega
  · intro h'; rw [Dn.upd_self] at h'; cases h'
  · rw [e5, e7]; exact h.d5
theorem X2.three (h : X2 W T Z CX CY vs D w) (hD : D 3 = false) : X2 W T Z CX CY (Dv.updV vs 3 (.pointer (some ⟨w.heap.size, 0, none⟩))) (Dn.upd D 3) (w.alloc (.cells Z T)) := by
  have hb : Below w.heap.size w (w.alloc (.cells Z T)) := (Below.refl _ _).alloc (Nat.le_refl _) _
  have e4 := Dn.upd_ne D (show 2 ≠ 3 by omega)
  have e6 := Dn.upd_ne D (show 4 ≠ 3 by omega)
  have e7 := Dn.upd_ne D (show 5 ≠ 3 by omega)
  have u4 := Dv.updV_ne vs (.pointer (some ⟨w.heap.size, 0, none⟩)) (show 2 ≠ 3 by omega)
  have h7 := h.d5 hD
  refine ⟨below_trans h.bel hb, fun B h4 hv => ?_, fun B _ hv => ?_, fun B B' h4 _ hv hv' => ?_, ?_, ?_⟩
  · rw [e4] at h4; rw [u4] at hv; rw [e6]
    obtain ⟨g1, g2, g3⟩ := h.fst B h4 hv
    exact ⟨g1, fun h => (g2 h).below hb, fun h => (g3 h).below hb⟩
  · rw [Dv.updV_self] at hv; rw [e7, h7]
    obtain rfl := ptr_inj2 hv
    exact ⟨h.bel.size, fun _ => Blk.new _ _ _, fun h => (by cases h)⟩
  · rw [e4] at h4; rw [u4] at hv; rw [Dv.updV_self] at hv'
    obtain ⟨g1, g2, g3⟩ := h.fst B h4 hv
    obtain rfl := ptr_inj2 hv'
    have hlt : B < w.heap.size := by
      rcases hd : D 4 with _ | _
      · exact (g2 hd).lt
      · exact (g3 hd).lt
    omega
  · rw [e4, e6]; exact h.d4
  · intro h'; rw [Dn.upd_self] at h'; cases h'
/-- the first variable's store -/
theorem X2.four (h : X2 W T Z CX CY vs D w) {B : Nat} (h2 : D 2 = true) (hv : vs 2 = .pointer (some ⟨B, 0, none⟩)) (hf : Fr (fun k _ => k = B) w w') (hm : Blk w' B T CX) (u : Value) : X2 W T Z CX CY (Dv.updV vs 4 u) (Dn.upd D 4) w' := by
  have e4 := Dn.upd_ne D (show 2 ≠ 4 by omega)
  have e5 := Dn.upd_ne D (show 3 ≠ 4 by omega)
  have e7 := Dn.upd_ne D (show 5 ≠ 4 by omega)
  have u4 := Dv.updV_ne vs u (show 2 ≠ 4 by omega)
  have u5 := Dv.updV_ne vs u (show 3 ≠ 4 by omega)
  obtain ⟨gN, _, _⟩ := h.fst B h2 hv
  have hb : Below W.heap.size w w' := hf.below h.bel.size (fun k i hk => by omega)
  refine ⟨⟨hb.os.trans h.bel.os, hb.tape.trans h.bel.tape, hb.output.trans h.bel.output, Nat.le_trans h.bel.size hb.size, fun k hk => (hb.block k hk).trans (h.bel.block k hk)⟩, fun C _ hc => ?_, fun C h3 hc => ?_, fun C C' h1 h3 hc hc' => ?_, ?_, ?_⟩
  · rw [u4, hv] at hc
    obtain rfl := ptr_inj2 hc
    exact ⟨gN, fun h' => (by rw [Dn.upd_self] at h'; cases h'), fun _ => hm⟩
  · rw [u5] at hc; rw [e5] at h3; rw [e7]
    obtain ⟨g1, g2, g3⟩ := h.snd C h3 hc
    have hCB : C ≠ B := fun e => h.ne B C h2 h3 hv hc e.symm
    exact ⟨g1, fun h => (g2 h).fr hf (fun _ => hCB), fun h => (g3 h).fr hf (fun _ => hCB)⟩
  · rw [u4] at hc; rw [u5] at hc'; rw [e4] at h1; rw [e5] at h3
    exact h.ne C C' h1 h3 hc hc'
  · rw [e4, h2]; intro h'; cases h'
  · rw [e5, e7]; exact h.d5
/-- the second variable's store -/
theorem X2.five (h : X2 W T Z CX CY vs D w) {B : Nat} (h3 : D 3 = true) (hv : vs 3 = .pointer (some ⟨B, 0, none⟩)) (hf : Fr (fun k _ => k = B) w w') (hm : Blk w' B T CY) (u : Value) : X2 W T Z CX CY (Dv.updV vs 5 u) (Dn.upd D 5) w' := by
  have e4 := Dn.upd_ne D (show 2 ≠ 5 by omega)
  have e5 := Dn.upd_ne D (show 3 ≠ 5 by omega)
  have e6 := Dn.upd_ne D (show 4 ≠ 5 by omega)
  have u4 := Dv.updV_ne vs u (show 2 ≠ 5 by omega)
  have u5 := Dv.updV_ne vs u (show 3 ≠ 5 by omega)
  obtain ⟨gN, _, _⟩ := h.snd B h3 hv
  have hb : Below W.heap.size w w' := hf.below h.bel.size (fun k i hk => by omega)
  refine ⟨⟨hb.os.trans h.bel.os, hb.tape.trans h.bel.tape, hb.output.trans h.bel.output, Nat.le_trans h.bel.size hb.size, fun k hk => (hb.block k hk).trans (h.bel.block k hk)⟩, fun C h2 hc => ?_, fun C _ hc => ?_, fun C C' h1 h2 hc hc' => ?_, ?_, ?_⟩
  · rw [u4] at hc; rw [e4] at h2; rw [e6]
    obtain ⟨g1, g2, g3⟩ := h.fst C h2 hc
    have hCB : C ≠ B := h.ne C B h2 h3 hc hv
    exact ⟨g1, fun h => (g2 h).fr hf (fun _ => hCB), fun h => (g3 h).fr hf (fun _ => hCB)⟩
  · rw [u5, hv] at hc
    obtain rfl := ptr_inj2 hc
    exact ⟨gN, fun h' => (by rw [Dn.upd_self] at h'; cases h'), fun _ => hm⟩
  · rw [u4] at hc; rw [u5] at hc'; rw [e4] at h1; rw [e5] at h2
    exact h.ne C C' h1 h2 hc hc'
  · rw [e4, e6]; exact h.d4
  · rw [e5, h3]; intro h'; cases h'
end
end Go.Bar
