/-
 'x, y := a, b' into two variables in memory: two allocs that have no edges, two stores (operations 2, 3, 4, 5 of a region that draws its order). Plain lemmas over any program; no condition.
-/
import Derived.Test.YtgabmfibfikdbaaGreatDoorZLib9
import Derived.Test.YtgabmfibfikdbaaGreatDoorZLib10

namespace Go.Bar
open Go.RowKit

structure X2 (W : World) (T : TypeId) (Z CX CY : Array Value) (vs : Nat -> Value) (D : Nat -> Bool) (w : World) : Prop where
 bel : Below W.heap.size W w
 fst : ∀ B, D 2 = true -> vs 2 = .pointer (some ⟨B, 0, none⟩) -> W.heap.size <= B /\ (D 4 = false -> Blk w B T Z) /\ (D 4 = true -> Blk w B T CX)
 snd : ∀ B, D 3 = true -> vs 3 = .pointer (some ⟨B, 0, none⟩) -> W.heap.size <= B /\ (D 5 = false -> Blk w B T Z) /\ (D 5 = true -> Blk w B T CY)
 ne : ∀ B B', D 2 = true -> D 3 = true -> vs 2 = .pointer (some ⟨B, 0, none⟩) -> vs 3 = .pointer (some ⟨B', 0, none⟩) -> B ≠ B'
 d4 : D 2 = false -> D 4 = false
 d5 : D 3 = false -> D 5 = false
section
variable {W w w' : World} {T : TypeId} {Z CX CY : Array Value} {vs : Nat -> Value} {D : Nat -> Bool}
theorem X2.congr : ∀ vs vs' D w, (∀ k, D k = true -> vs k = vs' k) -> X2 W T Z CX CY vs D w -> X2 W T Z CX CY vs' D w := fun _ _ _ _ h hX =>
 ⟨hX.bel, fun B h4 hv => hX.fst B h4 ((h 2 h4).trans hv), fun B h5 hv => hX.snd B h5 ((h 3 h5).trans hv), fun B B' h4 h5 hv hv' => hX.ne B B' h4 h5 ((h 2 h4).trans hv) ((h 3 h5).trans hv'), hX.d4, hX.d5⟩
theorem X2.start (W : World) (T : TypeId) (Z CX CY : Array Value) (vs : Nat -> Value) : X2 W T Z CX CY vs (fun _ => false) W := ⟨Below.refl _ _, fun _ h => (by cases h), fun _ h => (by cases h), fun _ _ h => (by cases h), fun _ => rfl, fun _ => rfl⟩
theorem X2.low (h : X2 W T Z CX CY vs D w) {i : Nat} (hi : i < 2 \/ 5 < i) (hb : Below w.heap.size w w') (v : Value) : X2 W T Z CX CY (Dv.updV vs i v) (Dn.upd D i) w' := by
 have e4 := Dn.upd_ne D (show 2 ≠ i by omega)
 have e5 := Dn.upd_ne D (show 3 ≠ i by omega)
 have e6 := Dn.upd_ne D (show 4 ≠ i by omega)
 have e7 := Dn.upd_ne D (show 5 ≠ i by omega)
 have u4 := Dv.updV_ne vs v (show 2 ≠ i by omega)
 have u5 := Dv.updV_ne vs v (show 3 ≠ i by omega)
 refine ⟨below_trans h.bel hb, fun B h4 hv => ?_, fun B h5 hv => ?_, fun B B' h4 h5 hv hv' => ?_, ?_, ?_⟩
 ·rw [e4] at h4; rw [u4] at hv; rw [e6]
  obtain ⟨g1, g2, g3⟩ := h.fst B h4 hv
  exact ⟨g1, fun h => (g2 h).below hb, fun h => (g3 h).below hb⟩
 ·rw [e5] at h5; rw [u5] at hv; rw [e7]
  obtain ⟨g1, g2, g3⟩ := h.snd B h5 hv
  exact ⟨g1, fun h => (g2 h).below hb, fun h => (g3 h).below hb⟩
 ·rw [e4] at h4; rw [e5] at h5; rw [u4] at hv; rw [u5] at hv'
  exact h.ne B B' h4 h5 hv hv'
 ·rw [e4, e6]; exact h.d4
 ·rw [e5, e7]; exact h.d5
theorem ptr_inj2 {B B' : Nat} (h : Value.pointer (some ⟨B, 0, none⟩) = .pointer (some ⟨B', 0, none⟩)) : B = B' := by
 injection h with h
 injection h with h
 injection h
end
end Go.Bar
