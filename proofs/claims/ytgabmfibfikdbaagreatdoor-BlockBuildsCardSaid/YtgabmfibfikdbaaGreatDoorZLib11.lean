/-
 A region that draws its order and writes once, at its end. Plain lemmas over any program; no condition.
-/
import Derived.Test.YtgabmfibfikdbaaGreatDoorZLib6
import Derived.Test.YtgabmfibfikdbaaGreatDoorZLib9

namespace Go.Bar
open Go.RowKit

def LX (m : Nat) (w0 w1 : World) (D : Nat -> Bool) (w : World) : Prop := (D m = false -> w = w0) /\ (D m = true -> w = w1 /\ ∀ i, i < m -> D i = true)
section
variable {m i : Nat} {w0 w1 w : World} {D : Nat -> Bool}
theorem LX.start : LX m w0 w1 (fun _ => false) w0 := ⟨fun _ => rfl, fun h => by cases h⟩
theorem LX.pure {L : List (Nat × Value)} (hm : (L.lookup m).isSome = true) : ∀ i D wx, L.lookup i = none -> LX m w0 w1 D wx -> LX m w0 w1 (Dn.upd D i) wx := by
 intro i D wx hi h
 have hne : m ≠ i := by rintro rfl; rw [hi] at hm; cases hm
 refine ⟨fun g => h.1 (by rwa [Dn.upd_ne D hne] at g), fun g => ?_⟩
 rw [Dn.upd_ne D hne] at g
 obtain ⟨h1, h2⟩ := h.2 g
 refine ⟨h1, fun j hj => ?_⟩
 by_cases hji : j = i
 ·subst hji; exact Dn.upd_self D j
 ·rw [Dn.upd_ne D hji]; exact h2 j hj
theorem LX.no (h : LX m w0 w1 D w) (hi : D i = false) (him : i < m) : D m = false := by
 rcases hd : D m with _ | _
 ·rfl
 ·have := (h.2 hd).2 i him
  rw [hi] at this; cases this
theorem LX.at_ (h : LX m w0 w1 D w) (hi : D i = false) (him : i < m) : w = w0 := h.1 (h.no hi him)
theorem LX.read (h : LX m w0 w1 D w) (hi : D i = false) (him : i < m) : LX m w0 w1 (Dn.upd D i) w :=
 ⟨fun _ => h.at_ hi him, fun g => by rw [Dn.upd_ne D (by omega), h.no hi him] at g; cases g⟩
theorem LX.last (h : ∀ i, i < m -> D i = true) : LX m w0 w1 (Dn.upd D m) w1 :=
 ⟨fun g => (by rw [Dn.upd_self] at g; cases g), fun _ => ⟨rfl, fun j hj => by rw [Dn.upd_ne D (by omega)]; exact h j hj⟩⟩
theorem LX.end_ (h : LX m w0 w1 D w) (hD : D m = true) : w = w1 := (h.2 hD).1
end
theorem pre_all {ops : Array Oper} {m : Nat} {D : Nat -> Bool} (hp : ∀ j, preB ops m j = true -> D j = true) (h : ((List.range m).all fun j => preB ops m j) = true) : ∀ i, i < m -> D i = true := fun i hi =>
 hp i (List.all_eq_true.1 h i (List.mem_range.2 hi))

def LP (m : Nat) (w0 : World) (F : World -> Prop) (D : Nat -> Bool) (w : World) : Prop := (D m = false -> w = w0) /\ (D m = true -> F w /\ ∀ i, i < m -> D i = true)
section
variable {m i : Nat} {w0 w w' : World} {F : World -> Prop} {D : Nat -> Bool}
theorem LP.start : LP m w0 F (fun _ => false) w0 := ⟨fun _ => rfl, fun h => by cases h⟩
theorem LP.pure {L : List (Nat × Value)} (hm : (L.lookup m).isSome = true) : ∀ i D wx, L.lookup i = none -> LP m w0 F D wx -> LP m w0 F (Dn.upd D i) wx := by
 intro i D wx hi h
 have hne : m ≠ i := by rintro rfl; rw [hi] at hm; cases hm
 refine ⟨fun g => h.1 (by rwa [Dn.upd_ne D hne] at g), fun g => ?_⟩
 rw [Dn.upd_ne D hne] at g
 obtain ⟨h1, h2⟩ := h.2 g
 refine ⟨h1, fun j hj => ?_⟩
 by_cases hji : j = i
 ·subst hji; exact Dn.upd_self D j
 ·rw [Dn.upd_ne D hji]; exact h2 j hj
theorem LP.no (h : LP m w0 F D w) (hi : D i = false) (him : i < m) : D m = false := by
 rcases hd : D m with _ | _
 ·rfl
 ·have := (h.2 hd).2 i him
  rw [hi] at this; cases this
theorem LP.at_ (h : LP m w0 F D w) (hi : D i = false) (him : i < m) : w = w0 := h.1 (h.no hi him)
theorem LP.read (h : LP m w0 F D w) (hi : D i = false) (him : i < m) : LP m w0 F (Dn.upd D i) w :=
 ⟨fun _ => h.at_ hi him, fun g => by rw [Dn.upd_ne D (by omega), h.no hi him] at g; cases g⟩
theorem LP.last (h : ∀ i, i < m -> D i = true) (hF : F w') : LP m w0 F (Dn.upd D m) w' :=
 ⟨fun g => (by rw [Dn.upd_self] at g; cases g), fun _ => ⟨hF, fun j hj => by rw [Dn.upd_ne D (by omega)]; exact h j hj⟩⟩
theorem LP.end_ (h : LP m w0 F D w) (hD : D m = true) : F w := (h.2 hD).1
end

theorem Buf.storeN {w : World} {e : TypeId} {sz n : Nat} {b o c : Nat} {xs : List Value} (h : Buf w e sz (.slice (some ⟨b, o, none⟩) n c) n xs) {j : Nat} (hj : j < n * sz) (u : Value) :
  Buf (w.setCell ⟨b, o + j, none⟩ u) e sz (.slice (some ⟨b, o, none⟩) n c) n (xs.set j u) := by
 obtain ⟨hl, A, c', hv', hnc, hc, hv⟩ := h
 injection hv' with h1 h2 h3
 subst h1; subst h3
 refine ⟨by rw [List.length_set]; exact hl, _, c, rfl, hnc, hc, fun h0 => ?_⟩
 obtain ⟨b', o', cur, fr, h4, hbk, hs, hf, hx⟩ := hv h0
 injection h4 with h4
 injection h4 with h4 h5 _
 subst h4; subst h5
 have hmul : n * sz <= c * sz := Nat.mul_le_mul_right _ hnc
 refine ⟨b, o, cur.setIfInBounds (o + j) u, fr, rfl, by simp [World.setCell, Array.getElem?_modify, hbk], by simpa using hs, hf, fun i hi => ?_⟩
 by_cases hij : i = j
 ·subst hij
  have hlen : i < xs.length := by rw [hl]; exact hi
  rw [Array.getElem?_setIfInBounds_self_of_lt (by omega), List.getElem?_set_self hlen]
 ·rw [Array.getElem?_setIfInBounds_ne (by omega), hx i hi, List.getElem?_set_ne (fun e => hij e.symm)]
theorem Buf.cellN {w : World} {e : TypeId} {sz n b o c : Nat} {xs : List Value} (h : Buf w e sz (.slice (some ⟨b, o, none⟩) n c) n xs) {j : Nat} (hj : j < n * sz) : w.cell? ⟨b, o + j, none⟩ = xs[j]? /\ w.frozen? ⟨b, o + j, none⟩ = false := by
 obtain ⟨hl, A, c', hv', hnc, hc, hv⟩ := h
 injection hv' with h1 h2 h3
 subst h1; subst h3
 have h0 : 0 < n := by
  rcases Nat.eq_zero_or_pos n with h | h
  ·subst h; simp at hj
  ·exact h
 obtain ⟨b', o', cur, fr, h4, hbk, hs, hf, hx⟩ := hv (by omega)
 injection h4 with h4
 injection h4 with h4 h5 _
 subst h4; subst h5
 have hmul : n * sz <= c * sz := Nat.mul_le_mul_right _ hnc
 refine ⟨(cell_of_block hbk _).trans (hx j hj), ?_⟩
 have := hf (o + j) (by omega) (by omega)
 have e0 : w.frozen? ⟨b, o + j, none⟩ = (decide (fr.1 <= o + j) && decide (o + j < fr.2)) := by simp only [World.frozen?, hbk]
 rw [e0, Bool.eq_false_iff]
 intro hh
 simp only [Bool.and_eq_true, decide_eq_true_eq] at hh
 exact this hh
theorem Buf.some_at {w : World} {e : TypeId} {sz n c : Nat} {A : Option Addr} {xs : List Value} (h : Buf w e sz (.slice A n c) n xs) (hn : 0 < n) : ∃ b o, A = some ⟨b, o, none⟩ /\ b < w.heap.size := by
 obtain ⟨hl, A', c', hv', hnc, hc, hv⟩ := h
 injection hv' with h1 h2 h3
 subst h1; subst h3
 obtain ⟨b, o, cur, fr, rfl, hbk, _⟩ := hv (by omega)
 exact ⟨b, o, rfl, (Array.getElem?_eq_some_iff.1 hbk).1⟩
theorem Buf.set_other {w : World} {e e' : TypeId} {sz sz' n n' b o c' : Nat} {v : Value} {xs xs' : List Value} (h : Buf w e sz v n xs) (h' : Buf w e' sz' (.slice (some ⟨b, o, none⟩) n' c') n' xs') (hn' : 0 < n') (hne : e ≠ e') (i : Nat) (u : Value) : Buf (w.setCell ⟨b, i, none⟩ u) e sz v n xs := by
 obtain ⟨hl, A, c, rfl, hnc, hc, hv⟩ := h
 refine ⟨hl, A, c, rfl, hnc, hc, fun h0 => ?_⟩
 obtain ⟨b1, o1, cur, fr, rfl, hbk, hs, hf, hx⟩ := hv h0
 obtain ⟨hl', A', c2, hv2, hnc', hc2, hv'2⟩ := h'
 injection hv2 with a1 a2 a3
 subst a1; subst a3
 obtain ⟨b2, o2, cur2, fr2, h4, hb2, _⟩ := hv'2 (by omega)
 injection h4 with h4
 injection h4 with h4
 subst h4
 have hbM : b1 ≠ b := by
  rintro rfl
  rw [hbk] at hb2
  injection hb2 with hb2
  injection hb2 with _ hb2 _
  exact hne hb2
 exact ⟨b1, o1, cur, fr, rfl, (Below.heap_setCell w ⟨b, i, none⟩ u b1 hbM).trans hbk, hs, hf, hx⟩
def st8 (w : World) (B : Nat) (v0 v1 v2 v3 v4 v5 v6 v7 : Value) : World := ((((((((w.setCell ⟨B, 0, none⟩ v0).setCell ⟨B, 1, none⟩ v1).setCell ⟨B, 2, none⟩ v2).setCell ⟨B, 3, none⟩ v3).setCell ⟨B, 4, none⟩ v4).setCell ⟨B, 5, none⟩ v5).setCell ⟨B, 6, none⟩ v6).setCell ⟨B, 7, none⟩ v7)
section
variable {w : World} {B : Nat} {v0 v1 v2 v3 v4 v5 v6 v7 : Value} {T : TypeId}
theorem Blk.st8 {a0 a1 a2 a3 a4 a5 a6 a7 : Value} (h : Blk w B T #[a0, a1, a2, a3, a4, a5, a6, a7]) : Blk (st8 w B v0 v1 v2 v3 v4 v5 v6 v7) B T #[v0, v1, v2, v3, v4, v5, v6, v7] := by
 have := ((((((((h.set 0 v0).set 1 v1).set 2 v2).set 3 v3).set 4 v4).set 5 v5).set 6 v6).set 7 v7)
 unfold Go.Bar.st8
 simpa using this
theorem Below.st8 {a : World} {N : Nat} (hb : Below N a w) (hB : N <= B) : Below N a (st8 w B v0 v1 v2 v3 v4 v5 v6 v7) := by unfold Go.Bar.st8; exact ((((((((hb.setCell (p := ⟨B, 0, none⟩) hB v0).setCell (p := ⟨B, 1, none⟩) hB v1).setCell (p := ⟨B, 2, none⟩) hB v2).setCell (p := ⟨B, 3, none⟩) hB v3).setCell (p := ⟨B, 4, none⟩) hB v4).setCell (p := ⟨B, 5, none⟩) hB v5).setCell (p := ⟨B, 6, none⟩) hB v6).setCell (p := ⟨B, 7, none⟩) hB v7)
theorem FBuf.st8 {w0 : World} {e : TypeId} {sz n : Nat} {v : Value} {xs : List Value} {cur : Array Value} (h : FBuf w0 w e sz v n xs) (hb : Blk w B T cur) (hne : e ≠ T) : FBuf w0 (st8 w B v0 v1 v2 v3 v4 v5 v6 v7) e sz v n xs :=
 (FBuf.set_ne2 (FBuf.set_ne2 (FBuf.set_ne2 (FBuf.set_ne2 (FBuf.set_ne2 (FBuf.set_ne2 (FBuf.set_ne2 (FBuf.set_ne2 ⟨h, _, hb⟩ hne 0 v0) hne 1 v1) hne 2 v2) hne 3 v3) hne 4 v4) hne 5 v5) hne 6 v6) hne 7 v7).1
end
theorem ba1 (w : World) (o : Obj) : Below w.heap.size w (w.alloc o) := (Below.refl _ _).alloc (Nat.le_refl _) o
def Sw (m : Nat) (A A' : World -> Prop) (D : Nat -> Bool) (w : World) : Prop := (D m = false -> A w) /\ (D m = true -> A' w)
section
variable {m i : Nat} {A A' : World -> Prop} {D : Nat -> Bool} {w w' : World}
theorem Sw.start (h : A w) : Sw m A A' (fun _ => false) w := ⟨fun _ => h, fun h => by cases h⟩
theorem Sw.same (h : Sw m A A' D w) (hi : m ≠ i) : Sw m A A' (Dn.upd D i) w := ⟨fun g => h.1 (by rwa [Dn.upd_ne D hi] at g), fun g => h.2 (by rwa [Dn.upd_ne D hi] at g)⟩
theorem Sw.keep (h : Sw m A A' D w) (hi : m ≠ i) (h1 : A w -> A w') (h2 : A' w -> A' w') : Sw m A A' (Dn.upd D i) w' := ⟨fun g => h1 (h.1 (by rwa [Dn.upd_ne D hi] at g)), fun g => h2 (h.2 (by rwa [Dn.upd_ne D hi] at g))⟩
theorem Sw.done (h : A' w') : Sw m A A' (Dn.upd D m) w' := ⟨fun g => (by rw [Dn.upd_self] at g; cases g), fun _ => h⟩
theorem lookup_ne' {L : List (Nat × Value)} (hm : (L.lookup m).isSome = true) (hi : L.lookup i = none) : m ≠ i := by rintro rfl; rw [hi] at hm; cases hm
end
def Cl (m : Nat) (D : Nat -> Bool) : Prop := D m = true -> ∀ i, i < m -> D i = true
section
variable {m i : Nat} {D : Nat -> Bool}
theorem Cl.start : Cl m (fun _ => false) := fun h => by cases h
theorem Cl.upd (h : Cl m D) (hi : m ≠ i) : Cl m (Dn.upd D i) := fun g j hj => by
 rw [Dn.upd_ne D hi] at g
 by_cases hji : j = i
 ·subst hji; exact Dn.upd_self D j
 ·rw [Dn.upd_ne D hji]; exact h g j hj
theorem Cl.no (h : Cl m D) (hi : D i = false) (him : i < m) : D m = false := by
 rcases hd : D m with _ | _
 ·rfl
 ·have := h hd i him
  rw [hi] at this; cases this
theorem Cl.last (h : ∀ i, i < m -> D i = true) : Cl m (Dn.upd D m) := fun _ j hj => by rw [Dn.upd_ne D (by omega)]; exact h j hj
end

end Go.Bar
