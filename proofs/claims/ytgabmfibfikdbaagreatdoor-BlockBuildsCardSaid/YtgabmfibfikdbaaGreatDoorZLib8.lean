/-
 Facts for the rule of Lib7: a region in which some operations write, one behind the other, and all others leave the world alone. Plain lemmas over any program; no condition.
-/
import Derived.Test.YtgabmfibfikdbaaGreatDoorZLib7

namespace Go.Bar.Dk
open Go.RowKit Go.Bar

def RWs (ws : List Nat) : Nat -> World -> World -> Prop := fun i w w' => ws.contains i = false -> w' = w
theorem RWs.yes {ws : List Nat} {i : Nat} {w w' : World} (h : ws.contains i = true) : RWs ws i w w' := fun h' => by rw [h] at h'; cases h'
theorem RWs.no {ws : List Nat} {i : Nat} {w : World} : RWs ws i w w := fun _ => rfl
def KF (m : Nat) (F : Value -> World -> Prop) : Value -> (Nat -> Bool) -> World -> Prop := fun v D w => D m = false -> F v w
def KL (F : Value -> World -> Prop) : Value -> (Nat -> Bool) -> World -> Prop := fun v _ w => F v w
theorem KF.keep {ops : Array Oper} {ws : List Nat} {k m : Nat} {F : Value -> World -> Prop} (h : (ws.all fun x => x == k || x == m || preB ops x m || preB ops k x) = true) :
  ∀ i D v w w', D i = false -> D k = true -> (∀ j, preB ops i j = true -> D j = true) -> (∀ k j, D k = true -> preB ops k j = true -> D j = true) -> RWs ws i w w' -> KF m F v D w -> KF m F v (Dn.upd D i) w' := by
 intro i D v w w' hi hk hpre hcl hR hg hu
 by_cases him : i = m
 ·subst him; rw [Dn.upd_self] at hu; cases hu
 ·rw [Dn.upd_ne D (fun h => him h.symm)] at hu
  have hno : ws.contains i = false := by
   rcases hc : ws.contains i with _ | _
   ·rfl
   ·exfalso
    have := List.all_eq_true.1 h i (List.contains_iff_mem.1 hc)
    simp only [Bool.or_eq_true, beq_iff_eq] at this
    rcases this with ((h1 | h1) | h1) | h1
    ·subst h1; rw [hi] at hk; cases hk
    ·exact him h1
    ·rw [hpre m h1] at hu; cases hu
    ·rw [hcl k i hk h1] at hi; cases hi
  rw [hR hno]
  exact hg hu
theorem KL.keep {ops : Array Oper} {ws : List Nat} {k : Nat} {F : Value -> World -> Prop} (h : (ws.all fun x => x == k || preB ops k x) = true) :
  ∀ i D v w w', D i = false -> D k = true -> (∀ j, preB ops i j = true -> D j = true) -> (∀ k j, D k = true -> preB ops k j = true -> D j = true) -> RWs ws i w w' -> KL F v D w -> KL F v (Dn.upd D i) w' := by
 intro i D v w w' hi hk hpre hcl hR hg
 have hno : ws.contains i = false := by
  rcases hc : ws.contains i with _ | _
  ·rfl
  ·exfalso
   have := List.all_eq_true.1 h i (List.contains_iff_mem.1 hc)
   simp only [Bool.or_eq_true, beq_iff_eq] at this
   rcases this with h1 | h1
   ·subst h1; rw [hi] at hk; cases hk
   ·rw [hcl k i hk h1] at hi; cases hi
 rw [hR hno]
 exact hg
theorem KF.pure {m : Nat} {F : Value -> World -> Prop} {i : Nat} {D : Nat -> Bool} {v : Value} {w : World} (h : KF m F v D w) : KF m F v (Dn.upd D i) w := by
 intro hu
 by_cases him : m = i
 ·subst him; rw [Dn.upd_self] at hu; cases hu
 ·rw [Dn.upd_ne D him] at hu; exact h hu
theorem KF.get {m : Nat} {F : Value -> World -> Prop} {D : Nat -> Bool} {v : Value} {w : World} (h : KF m F v D w) (hm : D m = false) : F v w := h hm
theorem atK_get' {M : List (Nat × ((Nat -> Bool) -> World -> Prop))} {k : Nat} {p : (Nat -> Bool) -> World -> Prop} {D : Nat -> Bool} {w : World} (h : atK M k D w) (hk : M.lookup k = some p) : p D w := by
 unfold atK at h
 rw [hk] at h
 exact h
def RB (n : Nat) (ws : List Nat) : Nat -> World -> World -> Prop := fun i w w' => i < n /\ (ws.contains i = false -> Below w.heap.size w w')
theorem RB.of {n : Nat} {ws : List Nat} {i : Nat} {w w' : World} (hi : i < n) (h : Below w.heap.size w w') : RB n ws i w w' := ⟨hi, fun _ => h⟩
theorem RB.yes {n : Nat} {ws : List Nat} {i : Nat} {w w' : World} (hi : i < n) (h : ws.contains i = true) : RB n ws i w w' := ⟨hi, fun h' => by rw [h] at h'; cases h'⟩
def SX (m : Nat) (F0 : World -> Prop) (C : World -> Prop) : (Nat -> Bool) -> World -> Prop := fun D w => (D m = false -> F0 w) /\ C w
theorem SX.pure {m : Nat} {F0 C : World -> Prop} {L : List (Nat × ((Value -> Prop) × (Value -> (Nat -> Bool) -> World -> Prop)))} (hm : (L.lookup m).isSome = true) : ∀ i D w, L.lookup i = none -> SX m F0 C D w -> SX m F0 C (Dn.upd D i) w := by
 intro i D w hi ⟨h1, h2⟩
 have hne : m ≠ i := by rintro rfl; rw [hi] at hm; cases hm
 exact ⟨fun h => h1 (by rwa [Dn.upd_ne D hne] at h), h2⟩
theorem SX.other {m i : Nat} {F0 C : World -> Prop} {D : Nat -> Bool} {w : World} (h : SX m F0 C D w) (hne : m ≠ i) : SX m F0 C (Dn.upd D i) w := ⟨fun g => h.1 (by rwa [Dn.upd_ne D hne] at g), h.2⟩
theorem SX.call {m i : Nat} {F0 C : World -> Prop} {D : Nat -> Bool} {w w' : World} (h : SX m F0 C D w) (hne : m ≠ i) (h1 : F0 w -> F0 w') (h2 : C w') : SX m F0 C (Dn.upd D i) w' := ⟨fun g => h1 (h.1 (by rwa [Dn.upd_ne D hne] at g)), h2⟩
theorem SX.first {m : Nat} {F0 C : World -> Prop} {D : Nat -> Bool} {w : World} (hc : C w) : SX m F0 C (Dn.upd D m) w := ⟨fun g => (by rw [Dn.upd_self] at g; cases g), hc⟩
theorem SX.later {m i : Nat} {F0 C : World -> Prop} {D : Nat -> Bool} {w : World} (hm : D m = true) (hne : m ≠ i) (hc : C w) : SX m F0 C (Dn.upd D i) w := ⟨fun g => (by rw [Dn.upd_ne D hne, hm] at g; cases g), hc⟩

section
variable {P : Program} {ops : Array Oper} {G : Nat -> Option ((Value -> Prop) × (Value -> (Nat -> Bool) -> World -> Prop))} {R : Nat -> World -> World -> Prop} {X : (Nat -> Bool) -> World -> Prop} {Qn : Act -> World -> Prop}
theorem Chain.end_facts {M : List (Nat × ((Nat -> Bool) -> World -> Prop))} {i : Nat} {a : Act} (h : ∀ D w, X D w -> (∀ j, atK M j D w) -> Qn a w) : Chain P ops G R X Qn i [] a (atK M) := fun D w _ hx hF => h D w hx hF
end

end Go.Bar.Dk
