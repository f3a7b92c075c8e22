/-
  Parts of slices: the value of l[a:b], and what it holds. Plain lemmas over any program; no condition.
-/
import Derived.Test.YtemmgejaoegpfaaZLib2
import Derived.Test.YtemmgejaoegpfaaZLib9
import Derived.Test.YtemmgejaoegpfaaZLib14

namespace Go.Bar
open Go.RowKit

/-- where a part of a slice begins -/
def dropA (a : Option Addr) (c k sz : Nat) : Option Addr := if c = k then a else a.map (·.add (k * sz))

section
variable {P : Program} {t e : TypeId} {i : TypeInfo} {w : World} {a : Option Addr} {n c sz : Nat}
theorem run_slice_ft (ht : P.underlying t = some (.slice e)) (hi : P.info? e = some i) (hs : i.size = sz) (l h : Nat) (hlh : l ≤ h) (hc : h ≤ c) (w : World) :
    (Instr.slice t (.slice a n c) (some (.int .i64 (l : Int))) (some (.int .i64 (h : Int))) none).run P w = .ok (.slice (dropA a c l sz) (h - l) (c - l)) w := by
  simp [Instr.slice, run_underlying ht, Instr.sliceBounds, Instr.sliceBound, asIntOf, sizeOf, typeInfo, hi, hs, hlh, hc, dropA]
theorem run_slice_f (ht : P.underlying t = some (.slice e)) (hi : P.info? e = some i) (hs : i.size = sz) (l : Nat) (hl : l ≤ n) (_hc : n ≤ c) (w : World) :
    (Instr.slice t (.slice a n c) (some (.int .i64 (l : Int))) none none).run P w = .ok (.slice (dropA a c l sz) (n - l) (c - l)) w := by
  simp [Instr.slice, run_underlying ht, Instr.sliceBounds, Instr.sliceBound, asIntOf, sizeOf, typeInfo, hi, hs, hl, dropA]
theorem run_slice_t (ht : P.underlying t = some (.slice e)) (hi : P.info? e = some i) (_hs : i.size = sz) (h : Nat) (hc : h ≤ c) (w : World) :
    (Instr.slice t (.slice a n c) none (some (.int .i64 (h : Int))) none).run P w = .ok (.slice a h c) w := by
  simp [Instr.slice, run_underlying ht, Instr.sliceBounds, Instr.sliceBound, asIntOf, sizeOf, typeInfo, hi, hc]
  intro _
  cases a with
  | none => rfl
  | some x => simp [Addr.add]
end

theorem SlAt.part {w : World} {sz n c : Nat} {a : Option Addr} {xs : List Value} (h : SlAt w sz (.slice a n c) n xs) (l m : Nat) (hlm : l ≤ m) (hm : m ≤ n) : SlAt w sz (.slice (dropA a c l sz) (m - l) (c - l)) (m - l) ((xs.drop (l * sz)).take ((m - l) * sz)) := by
  obtain ⟨hl, A', c1, hv', hnc, hcm, hv⟩ := h
  injection hv' with h1 h2 h3
  subst h1; subst h3
  have e1 : (m - l) * sz = m * sz - l * sz := Nat.sub_mul _ _ _
  have e2 := Nat.mul_le_mul_right sz hlm
  have e3 := Nat.mul_le_mul_right sz hm
  refine ⟨by rw [List.length_take, List.length_drop]; omega, _, _, rfl, by omega, by omega, fun h0 => ?_⟩
  obtain ⟨b, o, rfl, hlt, hx⟩ := hv (by omega)
  have hne : ¬ c = l := by
    intro hcl
    subst hcl
    have : m = c := by omega
    subst this
    simp at h0
  refine ⟨b, o + l * sz, ?_, hlt, fun j hj => ?_⟩
  · unfold dropA
    rw [if_neg hne]
    simp [addr_add]
  · rw [Nat.add_assoc, hx (l * sz + j) (by omega), List.getElem?_take, if_pos (by omega), List.getElem?_drop]

end Go.Bar

/-
  Regions that draw their order and store into a block of the call's own, cell by cell: which cells have turned is told by which stores are done. Plain lemmas; no condition.
-/
namespace Go.Bar
open Go.RowKit

/-- operation m comes behind operation i -/
def Af (m i : Nat) (D : Nat → Bool) : Prop := D m = true → D i = true
section
variable {m i j : Nat} {D : Nat → Bool}
theorem Af.start : Af m i (fun _ => false) := fun h => by cases h
theorem Af.upd (h : Af m i D) (hj : m ≠ j) : Af m i (Dn.upd D j) := fun g => by
  rw [Dn.upd_ne D hj] at g
  by_cases hij : i = j
  · subst hij; exact Dn.upd_self D i
  · rw [Dn.upd_ne D hij]; exact h g
theorem Af.last (h : D i = true) : Af m i (Dn.upd D m) := fun _ => by
  by_cases hij : i = m
  · subst hij; exact Dn.upd_self D i
  · rw [Dn.upd_ne D hij]; exact h
theorem Af.no (h : Af m i D) (hi : D i = false) : D m = false := by
  cases hm : D m
  · rfl
  · rw [h hm] at hi; cases hi
end

/-- a block of four cells; the first three are written by operations m0, m1, m2 -/
def B3 (Q : Nat) (T : TypeId) (m0 m1 m2 : Nat) (o0 o1 o2 n0 n1 n2 p : Value) (D : Nat → Bool) (w : World) : Prop := Blk w Q T #[bif D m0 then n0 else o0, bif D m1 then n1 else o1, bif D m2 then n2 else o2, p]
section
variable {Q : Nat} {T : TypeId} {m0 m1 m2 : Nat} {o0 o1 o2 n0 n1 n2 p : Value} {D : Nat → Bool} {w : World}
theorem B3.start (h : Blk w Q T #[o0, o1, o2, p]) : B3 Q T m0 m1 m2 o0 o1 o2 n0 n1 n2 p (fun _ => false) w := h
theorem B3.same (h : B3 Q T m0 m1 m2 o0 o1 o2 n0 n1 n2 p D w) {j : Nat} (h0 : m0 ≠ j) (h1 : m1 ≠ j) (h2 : m2 ≠ j) : B3 Q T m0 m1 m2 o0 o1 o2 n0 n1 n2 p (Dn.upd D j) w := by
  unfold B3
  rw [Dn.upd_ne D h0, Dn.upd_ne D h1, Dn.upd_ne D h2]
  exact h
theorem B3.load0 (h : B3 Q T m0 m1 m2 o0 o1 o2 n0 n1 n2 p D w) (hD : D m0 = false) : w.cell? ⟨Q, 0, none⟩ = some o0 := by
  have := Blk.cell (i := 0) h rfl
  rw [hD] at this
  exact this
theorem B3.load1 (h : B3 Q T m0 m1 m2 o0 o1 o2 n0 n1 n2 p D w) (hD : D m1 = false) : w.cell? ⟨Q, 1, none⟩ = some o1 := by
  have := Blk.cell (i := 1) h rfl
  rw [hD] at this
  exact this
theorem B3.load2 (h : B3 Q T m0 m1 m2 o0 o1 o2 n0 n1 n2 p D w) (hD : D m2 = false) : w.cell? ⟨Q, 2, none⟩ = some o2 := by
  have := Blk.cell (i := 2) h rfl
  rw [hD] at this
  exact this
theorem B3.free (h : B3 Q T m0 m1 m2 o0 o1 o2 n0 n1 n2 p D w) (i : Nat) : w.frozen? ⟨Q, i, none⟩ = false := Blk.free h i
theorem B3.set0 (h : B3 Q T m0 m1 m2 o0 o1 o2 n0 n1 n2 p D w) (h1 : m1 ≠ m0) (h2 : m2 ≠ m0) : B3 Q T m0 m1 m2 o0 o1 o2 n0 n1 n2 p (Dn.upd D m0) (w.setCell ⟨Q, 0, none⟩ n0) := by
  unfold B3
  rw [Dn.upd_self, Dn.upd_ne D h1, Dn.upd_ne D h2]
  exact Blk.set h 0 n0
theorem B3.set1 (h : B3 Q T m0 m1 m2 o0 o1 o2 n0 n1 n2 p D w) (h0 : m0 ≠ m1) (h2 : m2 ≠ m1) : B3 Q T m0 m1 m2 o0 o1 o2 n0 n1 n2 p (Dn.upd D m1) (w.setCell ⟨Q, 1, none⟩ n1) := by
  unfold B3
  rw [Dn.upd_self, Dn.upd_ne D h0, Dn.upd_ne D h2]
  exact Blk.set h 1 n1
theorem B3.set2 (h : B3 Q T m0 m1 m2 o0 o1 o2 n0 n1 n2 p D w) (h0 : m0 ≠ m2) (h1 : m1 ≠ m2) : B3 Q T m0 m1 m2 o0 o1 o2 n0 n1 n2 p (Dn.upd D m2) (w.setCell ⟨Q, 2, none⟩ n2) := by
  unfold B3
  rw [Dn.upd_self, Dn.upd_ne D h0, Dn.upd_ne D h1]
  exact Blk.set h 2 n2
theorem B3.end_ (h : B3 Q T m0 m1 m2 o0 o1 o2 n0 n1 n2 p D w) (h0 : D m0 = true) (h1 : D m1 = true) (h2 : D m2 = true) : Blk w Q T #[n0, n1, n2, p] := by
  unfold B3 at h
  rw [h0, h1, h2] at h
  exact h
theorem B3.cellA (h : B3 Q T m0 m1 m2 o0 o1 o2 n0 n1 n2 p D w) : (∃ u, w.cell? ⟨Q, 0, none⟩ = some u) ∧ (∃ u, w.cell? ⟨Q, 1, none⟩ = some u) ∧ ∃ u, w.cell? ⟨Q, 2, none⟩ = some u :=
  ⟨⟨_, Blk.cell (i := 0) h rfl⟩, ⟨_, Blk.cell (i := 1) h rfl⟩, ⟨_, Blk.cell (i := 2) h rfl⟩⟩
end
/-- only block Q has turned: buffers of another element type stay -/
theorem Buf.fr_ne {w w' : World} {e : TypeId} {sz n : Nat} {v : Value} {xs : List Value} (h : Buf w e sz v n xs) {Q : Nat} {T : TypeId} {cur : Array Value} (hb : Blk w Q T cur) (hne : e ≠ T) (hf : Fr (fun k _ => k = Q) w w') : Buf w' e sz v n xs := by
  obtain ⟨hl, A, c, rfl, hnc, hc, hv⟩ := h
  refine ⟨hl, A, c, rfl, hnc, hc, fun h0 => ?_⟩
  obtain ⟨b, o, cur', fr, rfl, hbk, hs, hfz, hx⟩ := hv h0
  refine ⟨b, o, cur', fr, rfl, (hf.block (Array.getElem?_eq_some_iff.1 hbk).1 (fun i e => ?_)).trans hbk, hs, hfz, hx⟩
  have e : b = Q := e
  subst e
  unfold Blk at hb
  rw [hbk] at hb
  injection hb with hb
  injection hb with _ h2 _
  exact hne h2
theorem NBuf.fr_ne {w0 w w' : World} {e : TypeId} {sz n : Nat} {v : Value} {xs : List Value} (h : NBuf w0 w e sz v n xs) {Q : Nat} {T : TypeId} {cur : Array Value} (hb : Blk w Q T cur) (hne : e ≠ T) (hQ : w0.heap.size ≤ Q) (hf : Fr (fun k _ => k = Q) w w') : NBuf w0 w' e sz v n xs :=
  ⟨h.buf.fr_ne hb hne hf, h.below.trans (hf.below h.below.size (fun k _ hk e => by have e : k = Q := e; omega)), h.new⟩
end Go.Bar

/-
  A sort of a row of one-cell elements, as a fact of a buffer. Plain lemmas; no condition.
-/
namespace Go.Bar
open Go.RowKit

section
variable {α : Type} [Inhabited α] (enc : α → Value) {w : World} {b o : Nat}
theorem Buf.holds {e : TypeId} {c : Nat} {l : List α} (h : Buf w e 1 (.slice (some ⟨b, o, none⟩) l.length c) l.length (l.map enc)) : Sort.Holds enc w b o l.toArray := by
  intro j hj
  have hj : j < l.length := hj
  obtain ⟨h1, h2⟩ := h.cellAt hj
  refine ⟨?_, h2⟩
  rw [h1, List.getElem?_map, List.getElem?_eq_getElem hj, getElem!_pos l.toArray j hj]
  rfl
/-- the world behind the sort -/
def sortRow (w : World) (b o m : Nat) (d : Array α) (os : Array Obj) : World := Sort.grow (Sort.putRow enc (Sort.ahead w m) b o d) os
theorem heap_sortRow (m : Nat) (d : Array α) (os : Array Obj) (hb : b < w.heap.size) : w.grownBy (sortRow enc w b o m d os) (some b) := by
  refine ⟨rfl, rfl, rfl, ?_, fun j hj hne => ?_⟩
  · unfold sortRow
    rw [Sort.size_grow, Sort.size_putRow]
    exact Nat.le_add_right _ _
  · unfold sortRow
    rw [Sort.heap_grow_old _ _ (by rw [Sort.size_putRow, Sort.heap_ahead]; omega)]
    unfold Sort.putRow Sort.mapBlock
    simp only [Sort.heap_ahead, Array.getElem?_modify]
    rw [if_neg (fun e => hne (by rw [e]))]
theorem Buf.sortRow {e : TypeId} {n c : Nat} {xs : List Value} (h : Buf w e 1 (.slice (some ⟨b, o, none⟩) n c) n xs) (m : Nat) (d : Array α) (hd : d.size = n) (hn : 0 < n) (os : Array Obj) : Buf (sortRow enc w b o m d os) e 1 (.slice (some ⟨b, o, none⟩) n c) n (d.toList.map enc) := by
  obtain ⟨hl, A, c', hv, hnc, hcm, hx⟩ := h
  injection hv with h1 h2 h3
  subst h1; subst h3
  obtain ⟨b', o', cur, fr, h4, hb, hs, hf, hxs⟩ := hx (by omega)
  injection h4 with h4
  injection h4 with h4 h5 _
  subst h4; subst h5
  have hlt : b < w.heap.size := (Array.getElem?_eq_some_iff.1 hb).1
  have hblk : (Go.Bar.sortRow enc w b o m d os).heap[b]? = some (.cells (Sort.putCells enc o d cur) e fr) := by
    unfold Go.Bar.sortRow
    rw [Sort.heap_grow_old _ _ (by rw [Sort.size_putRow]; exact hlt)]
    unfold Sort.putRow Sort.mapBlock
    simp only [Sort.heap_ahead, Array.getElem?_modify, hb, if_true, Option.map_some, Sort.onCells]
  refine ⟨by rw [List.length_map, Array.length_toList, hd]; omega, _, c, rfl, hnc, hcm, fun _ => ⟨b, o, _, fr, rfl, hblk, by simpa [Sort.putCells] using hs, hf, fun j hj => ?_⟩⟩
  have hj' : j < d.size := by omega
  unfold Sort.putCells
  rw [Array.getElem?_mapIdx, Array.getElem?_eq_getElem (by omega), List.getElem?_map, List.getElem?_eq_getElem (by rw [Array.length_toList]; exact hj')]
  simp only [Option.map_some]
  rw [if_pos ⟨Nat.le_add_right _ _, by omega⟩, Nat.add_sub_cancel_left, getElem!_pos d j hj']
  rfl
end
end Go.Bar
