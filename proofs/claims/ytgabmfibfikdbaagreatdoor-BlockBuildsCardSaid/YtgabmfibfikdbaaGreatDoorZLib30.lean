/-
 'x, y := f(.., g(z))' whose first result goes into a variable in memory: the variable's alloc (operation 16) has no edges; its store is operation 17, the calls are operations 11 and 12. Plain lemmas over any program; no condition.
-/
import Derived.Test.YtgabmfibfikdbaaGreatDoorZLib9
import Derived.Test.YtgabmfibfikdbaaGreatDoorZLib10
import Derived.Test.YtgabmfibfikdbaaGreatDoorZLib29

namespace Go.Bar
open Go.RowKit

structure XC (W : World) (T : TypeId) (Z : Array Value) (Pre G : Value -> World -> Prop) (cs : Value -> Array Value) (vs : Nat -> Value) (D : Nat -> Bool) (w : World) : Prop where
 bel : Below W.heap.size W w
 pre : D 11 = true -> D 12 = false -> Pre (vs 11) w
 res : D 12 = true -> G (vs 12) w
 box : ∀ B, D 16 = true -> vs 16 = .pointer (some ⟨B, 0, none⟩) -> W.heap.size <= B /\ (D 17 = false -> Blk w B T Z) /\ (D 17 = true -> Blk w B T (cs (vs 12)))
 d16 : D 16 = false -> D 17 = false
 d12 : D 12 = false -> D 17 = false
section
variable {W w w' : World} {T : TypeId} {Z : Array Value} {Pre G : Value -> World -> Prop} {cs : Value -> Array Value} {vs : Nat -> Value} {D : Nat -> Bool}
theorem XC.congr : ∀ vs vs' D w, (∀ k, D k = true -> vs k = vs' k) -> XC W T Z Pre G cs vs D w -> XC W T Z Pre G cs vs' D w := fun vs vs' D w h hX =>
 ⟨hX.bel, fun h1 h2 => h 11 h1 ▸ hX.pre h1 h2, fun h1 => h 12 h1 ▸ hX.res h1, fun B h1 hv => by
  obtain ⟨g1, g2, g3⟩ := hX.box B h1 ((h 16 h1).trans hv)
  refine ⟨g1, g2, fun h7 => ?_⟩
  have h12 : D 12 = true := by
   rcases hd : D 12 with _ | _
   ·have := hX.d12 hd; rw [this] at h7; cases h7
   ·rfl
  rw [<- h 12 h12]
  exact g3 h7, hX.d16, hX.d12⟩
theorem XC.start (W : World) (T : TypeId) (Z : Array Value) (Pre G : Value -> World -> Prop) (cs : Value -> Array Value) (vs : Nat -> Value) : XC W T Z Pre G cs vs (fun _ => false) W :=
 ⟨Below.refl _ _, fun h => (by cases h), fun h => (by cases h), fun _ h => (by cases h), fun _ => rfl, fun _ => rfl⟩
theorem XC.low (hP : ∀ v w w', Below w.heap.size w w' -> Pre v w -> Pre v w') (hG : ∀ v w w', Below w.heap.size w w' -> G v w -> G v w') (h : XC W T Z Pre G cs vs D w) {i : Nat} (hi : i ≠ 11 /\ i ≠ 12 /\ i ≠ 16 /\ i ≠ 17) (hb : Below w.heap.size w w') (v : Value) :
  XC W T Z Pre G cs (Dv.updV vs i v) (Dn.upd D i) w' := by
 obtain ⟨i1, i2, i3, i4⟩ := hi
 have e1 := Dn.upd_ne D i1.symm
 have e2 := Dn.upd_ne D i2.symm
 have e3 := Dn.upd_ne D i3.symm
 have e4 := Dn.upd_ne D i4.symm
 have u1 := Dv.updV_ne vs v i1.symm
 have u2 := Dv.updV_ne vs v i2.symm
 have u3 := Dv.updV_ne vs v i3.symm
 refine ⟨below_trans h.bel hb, ?_, ?_, fun B => ?_, ?_, ?_⟩
 ·rw [e1, e2, u1]; exact fun h1 h2 => hP _ _ _ hb (h.pre h1 h2)
 ·rw [e2, u2]; exact fun h1 => hG _ _ _ hb (h.res h1)
 ·rw [e3, u3, e4, u2]
  intro h1 hv
  obtain ⟨g1, g2, g3⟩ := h.box B h1 hv
  exact ⟨g1, fun h => (g2 h).below hb, fun h => (g3 h).below hb⟩
 ·rw [e3, e4]; exact h.d16
 ·rw [e2, e4]; exact h.d12
theorem XC.k11 (hG : ∀ v w w', Below w.heap.size w w' -> G v w -> G v w') (h : XC W T Z Pre G cs vs D w) (hb : Below w.heap.size w w') {v : Value} (hp : Pre v w') : XC W T Z Pre G cs (Dv.updV vs 11 v) (Dn.upd D 11) w' := by
 have e2 := Dn.upd_ne D (show 12 ≠ 11 by decide)
 have e3 := Dn.upd_ne D (show 16 ≠ 11 by decide)
 have e4 := Dn.upd_ne D (show 17 ≠ 11 by decide)
 have u2 := Dv.updV_ne vs v (show 12 ≠ 11 by decide)
 have u3 := Dv.updV_ne vs v (show 16 ≠ 11 by decide)
 refine ⟨below_trans h.bel hb, ?_, ?_, fun B => ?_, ?_, ?_⟩
 ·rw [Dv.updV_self]; exact fun _ _ => hp
 ·rw [e2, u2]; exact fun h1 => hG _ _ _ hb (h.res h1)
 ·rw [e3, u3, e4, u2]
  intro h1 hv
  obtain ⟨g1, g2, g3⟩ := h.box B h1 hv
  exact ⟨g1, fun h => (g2 h).below hb, fun h => (g3 h).below hb⟩
 ·rw [e3, e4]; exact h.d16
 ·rw [e2, e4]; exact h.d12
theorem XC.k12 (h : XC W T Z Pre G cs vs D w) (hD : D 12 = false) (hb : Below w.heap.size w w') {v : Value} (hg : G v w') : XC W T Z Pre G cs (Dv.updV vs 12 v) (Dn.upd D 12) w' := by
 have e3 := Dn.upd_ne D (show 16 ≠ 12 by decide)
 have e4 := Dn.upd_ne D (show 17 ≠ 12 by decide)
 have u3 := Dv.updV_ne vs v (show 16 ≠ 12 by decide)
 have h7 := h.d12 hD
 refine ⟨below_trans h.bel hb, ?_, ?_, fun B => ?_, ?_, ?_⟩
 ·intro _ h2; rw [Dn.upd_self] at h2; cases h2
 ·rw [Dv.updV_self]; exact fun _ => hg
 ·rw [e3, u3, e4, h7]
  intro h1 hv
  obtain ⟨g1, g2, _⟩ := h.box B h1 hv
  exact ⟨g1, fun _ => (g2 h7).below hb, fun h => (by cases h)⟩
 ·rw [e3, e4]; exact h.d16
 ·rw [e4, h7]; exact fun _ => rfl
theorem XC.k16 (hP : ∀ v w w', Below w.heap.size w w' -> Pre v w -> Pre v w') (hG : ∀ v w w', Below w.heap.size w w' -> G v w -> G v w') (h : XC W T Z Pre G cs vs D w) (hD : D 16 = false) : XC W T Z Pre G cs (Dv.updV vs 16 (.pointer (some ⟨w.heap.size, 0, none⟩))) (Dn.upd D 16) (w.alloc (.cells Z T)) := by
 have hb : Below w.heap.size w (w.alloc (.cells Z T)) := (Below.refl _ _).alloc (Nat.le_refl _) _
 have e1 := Dn.upd_ne D (show 11 ≠ 16 by decide)
 have e2 := Dn.upd_ne D (show 12 ≠ 16 by decide)
 have e4 := Dn.upd_ne D (show 17 ≠ 16 by decide)
 have u1 := Dv.updV_ne vs (.pointer (some ⟨w.heap.size, 0, none⟩)) (show 11 ≠ 16 by decide)
 have u2 := Dv.updV_ne vs (.pointer (some ⟨w.heap.size, 0, none⟩)) (show 12 ≠ 16 by decide)
 have h7 := h.d16 hD
 refine ⟨below_trans h.bel hb, ?_, ?_, fun B => ?_, ?_, ?_⟩
 ·rw [e1, e2, u1]; exact fun h1 h2 => hP _ _ _ hb (h.pre h1 h2)
 ·rw [e2, u2]; exact fun h1 => hG _ _ _ hb (h.res h1)
 ·rw [Dv.updV_self, e4, h7]
  intro _ hv
  obtain rfl := ptr_inj2 hv
  exact ⟨h.bel.size, fun _ => Blk.new _ _ _, fun h => (by cases h)⟩
 ·rw [e4, h7]; exact fun _ => rfl
 ·rw [e2, e4]; exact h.d12
theorem XC.k17 (h : XC W T Z Pre G cs vs D w) {B : Nat} (h16 : D 16 = true) (h12 : D 12 = true) (hv : vs 16 = .pointer (some ⟨B, 0, none⟩)) (hf : Fr (fun k _ => k = B) w w') (hm : Blk w' B T (cs (vs 12))) (hg : G (vs 12) w') (u : Value) : XC W T Z Pre G cs (Dv.updV vs 17 u) (Dn.upd D 17) w' := by
 have e2 := Dn.upd_ne D (show 12 ≠ 17 by decide)
 have e3 := Dn.upd_ne D (show 16 ≠ 17 by decide)
 have u2 := Dv.updV_ne vs u (show 12 ≠ 17 by decide)
 have u3 := Dv.updV_ne vs u (show 16 ≠ 17 by decide)
 obtain ⟨gN, _, _⟩ := h.box B h16 hv
 have hb : Below W.heap.size w w' := hf.below h.bel.size (fun k i hk => by omega)
 refine ⟨⟨hb.os.trans h.bel.os, hb.tape.trans h.bel.tape, hb.output.trans h.bel.output, Nat.le_trans h.bel.size hb.size, fun k hk => (hb.block k hk).trans (h.bel.block k hk)⟩, ?_, ?_, fun C => ?_, ?_, ?_⟩
 ·rw [e2, h12]; intro _ h2; cases h2
 ·rw [u2]; exact fun _ => hg
 ·rw [u3, Dn.upd_self, u2]
  intro _ hc
  rw [hv] at hc
  obtain rfl := ptr_inj2 hc
  exact ⟨gN, fun h => (by cases h), fun _ => hm⟩
 ·rw [e3, h16]; intro h; cases h
 ·rw [e2, h12]; intro h; cases h
end
theorem blkT10 {w : World} {B : Nat} {T : TypeId} {a0 a1 a2 a3 a4 a5 a6 a7 a8 a9 v0 v1 v2 v3 v4 v5 v6 v7 v8 v9 : Value} (h : Blk w B T #[a0, a1, a2, a3, a4, a5, a6, a7, a8, a9]) : Blk ((((((((((w.setCell ⟨B, 0, none⟩ v0).setCell ⟨B, 1, none⟩ v1).setCell ⟨B, 2, none⟩ v2).setCell ⟨B, 3, none⟩ v3).setCell ⟨B, 4, none⟩ v4).setCell ⟨B, 5, none⟩ v5).setCell ⟨B, 6, none⟩ v6).setCell ⟨B, 7, none⟩ v7).setCell ⟨B, 8, none⟩ v8).setCell ⟨B, 9, none⟩ v9) B T #[v0, v1, v2, v3, v4, v5, v6, v7, v8, v9] := by
 have := (((((((((h.set 0 v0).set 1 v1).set 2 v2).set 3 v3).set 4 v4).set 5 v5).set 6 v6).set 7 v7).set 8 v8).set 9 v9
 simpa using this
theorem frT1 {w w' : World} {B : Nat} (h : Fr (fun k _ => k = B) w w') (i : Nat) (u : Value) : Fr (fun k _ => k = B) w (w'.setCell ⟨B, i, none⟩ u) := h.setCell (k := B) (i := i) (fun _ => rfl) u
theorem frT10 (w : World) (B : Nat) (v0 v1 v2 v3 v4 v5 v6 v7 v8 v9 : Value) : Fr (fun k _ => k = B) w ((((((((((w.setCell ⟨B, 0, none⟩ v0).setCell ⟨B, 1, none⟩ v1).setCell ⟨B, 2, none⟩ v2).setCell ⟨B, 3, none⟩ v3).setCell ⟨B, 4, none⟩ v4).setCell ⟨B, 5, none⟩ v5).setCell ⟨B, 6, none⟩ v6).setCell ⟨B, 7, none⟩ v7).setCell ⟨B, 8, none⟩ v8).setCell ⟨B, 9, none⟩ v9) :=
 frT1 (frT1 (frT1 (frT1 (frT1 (frT1 (frT1 (frT1 (frT1 (frT1 (Fr.of_below (Below.refl _ _)) 0 _) 1 _) 2 _) 3 _) 4 _) 5 _) 6 _) 7 _) 8 _) 9 _
end Go.Bar
