/-
 Regions that draw their order and store into a block of the call's own, cell by cell: which cells have turned is told by which stores are done. Plain lemmas; no condition.
-/
import Derived.Test.YtgabmfibfikdbaaGreatDoorZLib11

namespace Go.Bar
open Go.RowKit

def Af (m i : Nat) (D : Nat -> Bool) : Prop := D m = true -> D i = true
section
variable {m i j : Nat} {D : Nat -> Bool}
theorem Af.start : Af m i (fun _ => false) := fun h => by cases h
theorem Af.upd (h : Af m i D) (hj : m ≠ j) : Af m i (Dn.upd D j) := fun g => by
 rw [Dn.upd_ne D hj] at g
 by_cases hij : i = j
 ·subst hij; exact Dn.upd_self D i
 ·rw [Dn.upd_ne D hij]; exact h g
theorem Af.last (h : D i = true) : Af m i (Dn.upd D m) := fun _ => by
 by_cases hij : i = m
 ·subst hij; exact Dn.upd_self D i
 ·rw [Dn.upd_ne D hij]; exact h
theorem Af.no (h : Af m i D) (hi : D i = false) : D m = false := by
 cases hm : D m
 ·rfl
 ·rw [h hm] at hi; cases hi
end

def B3 (Q : Nat) (T : TypeId) (m0 m1 m2 : Nat) (o0 o1 o2 n0 n1 n2 p : Value) (D : Nat -> Bool) (w : World) : Prop := Blk w Q T #[bif D m0 then n0 else o0, bif D m1 then n1 else o1, bif D m2 then n2 else o2, p]
section
variable {Q : Nat} {T : TypeId} {m0 m1 m2 : Nat} {o0 o1 o2 n0 n1 n2 p : Value} {D : Nat -> Bool} {w : World}
theorem B3.start (h : Blk w Q T #[o0, o1, o2, p]) : B3 Q T m0 m1 m2 o0 o1 o2 n0 n1 n2 p (fun _ => false) w := h
theorem B3.same (h : B3 Q T m0 m1 m2 o0 o1 o2 n0 n1 n2 p D w) {j : Nat} (h0 : m0 ≠ j) (h1 : m1 ≠ j) (h2 : m2 ≠ j) : B3 Q T m0 m1 m2 o0 o1 o2 n0 n1 n2 p (Dn.upd D j) w := by
 unfold B3
 rw [Dn.upd_ne D h0, Dn.upd_ne D h1, Dn.upd_ne D h2]
 exact h
theorem B3.free (h : B3 Q T m0 m1 m2 o0 o1 o2 n0 n1 n2 p D w) (i : Nat) : w.frozen? ⟨Q, i, none⟩ = false := Blk.free h i
theorem B3.end_ (h : B3 Q T m0 m1 m2 o0 o1 o2 n0 n1 n2 p D w) (h0 : D m0 = true) (h1 : D m1 = true) (h2 : D m2 = true) : Blk w Q T #[n0, n1, n2, p] := by
 unfold B3 at h
 rw [h0, h1, h2] at h
 exact h
end
theorem Buf.fr_ne {w w' : World} {e : TypeId} {sz n : Nat} {v : Value} {xs : List Value} (h : Buf w e sz v n xs) {Q : Nat} {T : TypeId} {cur : Array Value} (hb : Blk w Q T cur) (hne : e ≠ T) (hf : Fr (fun k _ => k = Q) w w') : Buf w' e sz v n xs := by
 obtain ⟨hl, A, c, rfl, hnc, hc, hv⟩ := h
 refine ⟨hl, A, c, rfl, hnc, hc, fun h0 => ?_⟩
 obtain ⟨b, o, cur', fr, rfl, hbk, hs, hfz, hx⟩ := hv h0
 refine ⟨b, o, cur', fr, rfl, (hf.block (Array.getElem?_eq_some_iff.1 hbk).1 (fun i e => ?_)).trans hbk, hs, hfz, hx⟩
 have e : b = Q := e
 subst e
 unfold Blk at hb
 rw [hbk] at hb
 injection hb with hb
 injection hb with _ h2 _
 exact hne h2
theorem NBuf.fr_ne {w0 w w' : World} {e : TypeId} {sz n : Nat} {v : Value} {xs : List Value} (h : NBuf w0 w e sz v n xs) {Q : Nat} {T : TypeId} {cur : Array Value} (hb : Blk w Q T cur) (hne : e ≠ T) (hQ : w0.heap.size <= Q) (hf : Fr (fun k _ => k = Q) w w') : NBuf w0 w' e sz v n xs :=
 ⟨h.buf.fr_ne hb hne hf, h.below.trans (hf.below h.below.size (fun k _ hk e => by have e : k = Q := e; omega)), h.new⟩
end Go.Bar
