/-
 Maps from texts to ints that the call itself has made, said as functions (MpAt). Plain lemmas over any program; no condition.
-/
import Derived.Test.YtgabmfibfikdbaaGreatDoorZLib4
import Derived.Test.YtgabmfibfikdbaaGreatDoorZLib9
import Derived.Maps.Own
import Derived.Maps.OwnOps
import Derived.Maps.OwnSet
import Derived.Maps.RangeWalk

namespace Go.Bar
open Go.RowKit

def ky (l : List UInt8) : Lit := .string l
theorem ky_ne {l m : List UInt8} (h : l ≠ m) : ky l ≠ ky m := fun e => h (by injection e)
theorem ky_is (l : List UInt8) : WideAt.IsKeyLit (ky l) := by unfold ky WideAt.IsKeyLit; trivial
def el (z : Int) : DataW Unit := .lit (.int .i64 z)
structure Says (D : DataW Unit) (f : List UInt8 -> Option Int) : Prop where
 has : ∀ l, Maps.has D (ky l) = (f l).isSome
 at_ : ∀ l, D.atKey (ky l) (el 0) = el ((f l).getD 0)
def MpAt (P : Program) (k e : TypeId) (w : World) (b n : Nat) (f : List UInt8 -> Option Int) : Prop := ∃ D : DataW Unit, w.ownsMap P k (plainElem P e) b n D /\ Says D f

def upd (f : List UInt8 -> Option Int) (l : List UInt8) (z : Int) : List UInt8 -> Option Int := fun x => if x = l then some z else f x
theorem Says.put {D : DataW Unit} {f : List UInt8 -> Option Int} (h : Says D f) (hD : Maps.IsMap D) (l : List UInt8) (z : Int) : Says (D.put (ky l) (el z)) (upd f l z) where
 has x := by
  unfold upd
  by_cases hx : x = l
  ·subst hx
   rw [if_pos rfl, Maps.has_put_same hD (ky_is x)]; rfl
  ·rw [if_neg hx, Maps.has_put_other (ky_ne hx), h.has]
 at_ x := by
  unfold upd
  by_cases hx : x = l
  ·subst hx
   rw [if_pos rfl, Maps.atKey_put_same hD (ky_is x)]; rfl
  ·rw [if_neg hx, Maps.atKey_put_other (ky_ne hx), h.at_]

section
variable {P : Program} {t k e : TypeId} {w w' : World} {b n : Nat} {f : List UInt8 -> Option Int}
theorem MpAt.lt (h : MpAt P k e w b n f) : b < w.heap.size := by obtain ⟨D, h, _⟩ := h; exact h.lt
theorem MpAt.mono (h : MpAt P k e w b n f) {m : Nat} (hm : n <= m) : MpAt P k e w b m f := by obtain ⟨D, h, hs⟩ := h; exact ⟨D, h.mono hm, hs⟩
theorem MpAt.kept {row : Option Nat} (h : MpAt P k e w b n f) (hg : w.grownBy w' row) (hne : some b ≠ row) : MpAt P k e w' b n f := by obtain ⟨D, h, hs⟩ := h; exact ⟨D, h.kept hg hne, hs⟩
theorem MpAt.block (h : MpAt P k e w b n f) (hb : w'.heap[b]? = w.heap[b]?) : MpAt P k e w' b n f := by
 obtain ⟨D, ⟨es, clock, h1, h2, h3, h4⟩, hs⟩ := h
 exact ⟨D, ⟨es, clock, hb.trans h1, h2, h3, h4⟩, hs⟩
theorem MpAt.below (h : MpAt P k e w b n f) (hb : Below w.heap.size w w') : MpAt P k e w' b n f := h.block (hb.block b h.lt)
theorem MpAt.belowB (h : MpAt P k e w b n f) {B : Nat} (hb : Below B w w') (hB : b < B) : MpAt P k e w' b n f := h.block (hb.block b hB)
theorem MpAt.alloc (h : MpAt P k e w b n f) (o : Obj) : MpAt P k e (w.alloc o) b n f := h.below ((Below.refl _ _).alloc (Nat.le_refl _) o)
theorem MpAt.drew (h : MpAt P k e w b n f) : MpAt P k e w.drew b n f := h.below (Below.refl _ _).drew
theorem MpAt.drewN (h : MpAt P k e w b n f) (m : Nat) : MpAt P k e (w.drewN m) b n f := h.below (below_draws w m)
theorem MpAt.is_map (h : MpAt P k e w b n f) : ∃ es clock, w.heap[b]? = some (.map es clock) := by
 obtain ⟨D, ⟨es, clock, h1, _⟩, _⟩ := h
 exact ⟨es, clock, h1⟩
theorem MpAt.fr {S : Nat -> Nat -> Prop} (h : MpAt P k e w b n f) (hf : Fr S w w') : MpAt P k e w' b n f := by
 refine h.block ?_
 rcases hf.blk b h.lt with h1 | ⟨c, c', e', fr, h1, _⟩
 ·exact h1
 ·obtain ⟨es, clock, h2⟩ := h.is_map
  rw [h2] at h1
  cases h1
theorem MpAt.ap {sz : Nat} {v : Value} (h : MpAt P k e w b n f) (ha : Ap w w' sz v) : MpAt P k e w' b n f := h.fr (Fr.of_ap (S := fun _ _ => True) ha (fun _ _ _ => trivial))
theorem MpAt.set (h : MpAt P k e w b n f) (k' i : Nat) (u : Value) : MpAt P k e (w.setCell ⟨k', i, none⟩ u) b n f := h.fr ((Fr.refl (fun _ _ => True) w).setCell (fun _ => trivial) u)

theorem Blk.grown {M : Nat} {T : TypeId} {cur : Array Value} (h : Blk w M T cur) (hg : w.grownBy w' (some b)) (hne : M ≠ b) : Blk w' M T cur :=
 (hg.block M h.lt (fun e => hne (by injection e))).trans h
theorem MpAt.grown {M : Nat} (h : MpAt P k e w b n f) (hg : w.grownBy w' (some M)) (hne : b ≠ M) : MpAt P k e w' b n f := h.kept hg (fun e => hne (by injection e))
end

section
variable {P : Program} (w : World) {ops : Array Oper} {rest : List Oper} {o : Oper} {a : Act} {Q : Exit -> Act -> World -> Prop}
end
end Go.Bar
