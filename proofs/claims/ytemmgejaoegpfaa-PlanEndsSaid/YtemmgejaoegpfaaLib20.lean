/-
  A sort of a row of one-cell elements, as a fact of a buffer. Plain lemmas; no condition.
-/
import Derived.Test.YtemmgejaoegpfaaLib13
import Derived.Test.YtemmgejaoegpfaaLib17
namespace Go.Bar
open Go.RowKit

section
variable {α : Type} [Inhabited α] (enc : α → Value) {w : World} {b o : Nat}
theorem Buf.holds {e : TypeId} {c : Nat} {l : List α} (h : Buf w e 1 (.slice (some ⟨b, o, none⟩) l.length c) l.length (l.map enc)) : Sort.Holds enc w b o l.toArray := by
  intro j hj
  have hj : j < l.length := hj
  obtain ⟨h1, h2⟩ := h.cellAt hj
  refine ⟨?_, h2⟩
  rw [h1, List.getElem?_map, List.getElem?_eq_getElem hj, getElem!_pos l.toArray j hj]
  rfl
/-- the world behind the sort -/
def sortRow (w : World) (b o m : Nat) (d : Array α) (os : Array Obj) : World := Sort.grow (Sort.putRow enc (Sort.ahead w m) b o d) os
theorem heap_sortRow (m : Nat) (d : Array α) (os : Array Obj) (hb : b < w.heap.size) : w.grownBy (sortRow enc w b o m d os) (some b) := by
  refine ⟨rfl, rfl, rfl, ?_, fun j hj hne => ?_⟩
  · unfold sortRow
    rw [Sort.size_grow, Sort.size_putRow]
    exact Nat.le_add_right _ _
  · unfold sortRow
    rw [Sort.heap_grow_old _ _ (by rw [Sort.size_putRow, Sort.heap_ahead]; omega)]
    unfold Sort.putRow Sort.mapBlock
    simp only [Sort.heap_ahead, Array.getElem?_modify]
    rw [if_neg (fun e => hne (by rw [e]))]
theorem Buf.sortRow {e : TypeId} {n c : Nat} {xs : List Value} (h : Buf w e 1 (.slice (some ⟨b, o, none⟩) n c) n xs) (m : Nat) (d : Array α) (hd : d.size = n) (hn : 0 < n) (os : Array Obj) : Buf (sortRow enc w b o m d os) e 1 (.slice (some ⟨b, o, none⟩) n c) n (d.toList.map enc) := by
  obtain ⟨hl, A, c', hv, hnc, hcm, hx⟩ := h
  injection hv with h1 h2 h3
  subst h1; subst h3
  obtain ⟨b', o', cur, fr, h4, hb, hs, hf, hxs⟩ := hx (by omega)
  injection h4 with h4
  injection h4 with h4 h5 _
  subst h4; subst h5
  have hlt : b < w.heap.size := (Array.getElem?_eq_some_iff.1 hb).1
  have hblk : (Go.Bar.sortRow enc w b o m d os).heap[b]? = some (.cells (Sort.putCells enc o d cur) e fr) := by
    unfold Go.Bar.sortRow
    rw [Sort.heap_grow_old _ _ (by rw [Sort.size_putRow]; exact hlt)]
    unfold Sort.putRow Sort.mapBlock
    simp only [Sort.heap_ahead, Array.getElem?_modify, hb, if_true, Option.map_some, Sort.onCells]
  refine ⟨by rw [List.length_map, Array.length_toList, hd]; omega, _, c, rfl, hnc, hcm, fun _ => ⟨b, o, _, fr, rfl, hblk, by simpa [Sort.putCells] using hs, hf, fun j hj => ?_⟩⟩
  have hj' : j < d.size := by omega
  unfold Sort.putCells
  rw [Array.getElem?_mapIdx, Array.getElem?_eq_getElem (by omega), List.getElem?_map, List.getElem?_eq_getElem (by rw [Array.length_toList]; exact hj')]
  simp only [Option.map_some]
  rw [if_pos ⟨Nat.le_add_right _ _, by omega⟩, Nat.add_sub_cancel_left, getElem!_pos d j hj']
  rfl
end
end Go.Bar
