/-
 Sorting: the kit's words on rows that a sort has turned, said of buffers. Plain lemmas over any program; no condition.
-/
import Derived.Test.YtgabmfibfikdbaaGreatDoorZLib11
import Derived.Shelf.SlSortCmp.WholeK

namespace Go.Bar
open Go.RowKit

theorem flat_at {α : Type} [Inhabited α] (enc : α -> List Value) (k : Nat) (hk : ∀ x, (enc x).length = k) : ∀ (l : List α) (t : Nat), t < l.length * k -> (l.flatMap enc)[t]? = some ((enc (l[t / k]!))[t % k]!)
 | [], t, h => by simp at h
 | x :: r, t, h => by
  have k0 : 0 < k := by
   rcases Nat.eq_zero_or_pos k with h0 | h0
   ·subst h0; simp at h
   ·exact h0
  rw [List.flatMap_cons]
  by_cases ht : t < k
  ·rw [List.getElem?_append_left (by rw [hk]; exact ht), Nat.div_eq_of_lt ht, Nat.mod_eq_of_lt ht, List.getElem?_eq_getElem (by rw [hk]; exact ht)]
   simp [hk, ht]
  ·obtain ⟨s, rfl⟩ : ∃ s, t = s + k := ⟨t - k, by omega⟩
   rw [List.getElem?_append_right (by rw [hk]; omega), hk, Nat.add_sub_cancel, flat_at enc k hk r s (by rw [List.length_cons, Nat.add_mul] at h; omega), Nat.add_div_right _ k0, Nat.add_mod_right]
   simp
theorem flatK_at {α : Type} [Inhabited α] (enc : α -> List Value) (k : Nat) (hk : ∀ x, (enc x).length = k) (d : Array α) (t : Nat) (h : t < d.size * k) : (d.toList.flatMap enc)[t]? = some ((Sort.flatK enc k d)[t]!) := by
 rw [flat_at enc k hk d.toList t (by simpa using h), Sort.get_flatK enc k d t h]
 simp [getElem!_def, Array.getElem?_toList]

theorem Buf.holdsK {α : Type} [Inhabited α] {enc : α -> List Value} {k : Nat} (hk : ∀ x, (enc x).length = k) {w : World} {e : TypeId} {b o c : Nat} {d : Array α}
  (h : Buf w e k (.slice (some ⟨b, o, none⟩) d.size c) d.size (d.toList.flatMap enc)) : Sort.HoldsK enc k w b o d := by
 intro j hj
 rw [Sort.size_flatK] at hj
 obtain ⟨h1, h2⟩ := h.cellN hj
 rw [flatK_at enc k hk d j hj] at h1
 exact ⟨h1, h2⟩

theorem sortWorldK_block {α : Type} [Inhabited α] (enc : α -> List Value) (k : Nat) {w : World} {b o : Nat} (m : Nat) (d : Array α) (os : Array Obj) {cur : Array Value} {e : TypeId} {fr : Nat × Nat} (h : w.heap[b]? = some (.cells cur e fr)) :
  (Go.Proofs.sortWorldK enc k w b o m d os).heap[b]? = some (.cells (Sort.putCells id o (Sort.flatK enc k d) cur) e fr) := by
 have hlt : b < w.heap.size := (Array.getElem?_eq_some_iff.1 h).1
 unfold Go.Proofs.sortWorldK
 rw [Sort.heap_grow_old _ _ (by unfold Sort.putRowK; rw [Sort.size_putRow]; exact hlt)]
 unfold Sort.putRowK Sort.putRow Sort.mapBlock
 simp only [Sort.heap_ahead, Array.getElem?_modify, h, if_true, Option.map_some, Sort.onCells]
theorem sortWorldK_below {α : Type} [Inhabited α] (enc : α -> List Value) (k : Nat) {w : World} {b o : Nat} (m : Nat) (d : Array α) (os : Array Obj) {B : Nat} (hB : B <= b) (hb : b < w.heap.size) : Below B w (Go.Proofs.sortWorldK enc k w b o m d os) := by
 refine ⟨rfl, rfl, rfl, ?_, fun j hj => ?_⟩
 ·unfold Go.Proofs.sortWorldK Sort.putRowK
  rw [Sort.size_grow, Sort.size_putRow]
  exact Nat.le_add_right _ _
 ·unfold Go.Proofs.sortWorldK Sort.putRowK
  rw [Sort.heap_grow_old _ _ (by rw [Sort.size_putRow, Sort.heap_ahead]; omega)]
  unfold Sort.putRow Sort.mapBlock
  simp only [Sort.heap_ahead, Array.getElem?_modify]
  rw [if_neg (by omega)]
theorem Buf.sortWorldK {α : Type} [Inhabited α] {enc : α -> List Value} {k : Nat} (hk : ∀ x, (enc x).length = k) {w : World} {e : TypeId} {b o c n : Nat} {xs : List Value}
  (h : Buf w e k (.slice (some ⟨b, o, none⟩) n c) n xs) (m : Nat) (d : Array α) (hd : d.size = n) (hn : 0 < n) (os : Array Obj) : Buf (Go.Proofs.sortWorldK enc k w b o m d os) e k (.slice (some ⟨b, o, none⟩) n c) n (d.toList.flatMap enc) := by
 obtain ⟨hl, A, c', hv, hnc, hcm, hx⟩ := h
 injection hv with h1 h2 h3
 subst h1; subst h3
 obtain ⟨b', o', cur, fr, h4, hb, hs, hf, hxs⟩ := hx (by omega)
 injection h4 with h4
 injection h4 with h4 h5 _
 subst h4; subst h5
 refine ⟨?_, _, c, rfl, hnc, hcm, fun _ => ⟨b, o, _, fr, rfl, sortWorldK_block enc k m d os hb, ?_, hf, fun j hj => ?_⟩⟩
 ·rw [List.length_flatMap]
  have : (List.map (fun a => (enc a).length) d.toList).sum = d.toList.length * k := by
   generalize d.toList = l
   induction l with
   | nil => simp
   | cons x r ih => rw [List.map_cons, List.sum_cons, ih, hk, List.length_cons, Nat.add_mul]; omega
  rw [this, Array.length_toList, hd]
 ·simpa [Sort.putCells] using hs
 ·have hj' : j < d.size * k := by rw [hd]; exact hj
  have hmul := Nat.mul_le_mul_right k hnc
  rw [flatK_at enc k hk d j hj']
  unfold Sort.putCells
  rw [Array.getElem?_mapIdx, Array.getElem?_eq_getElem (by omega)]
  simp only [Option.map_some]
  rw [if_pos ⟨Nat.le_add_right _ _, by rw [Sort.size_flatK]; omega⟩, Nat.add_sub_cancel_left]
  rfl

theorem permIn_list {α : Type} [Inhabited α] {d d' : Array α} (h : Sort.PermIn 0 d.size d d') : d'.size = d.size /\ d'.toList.Perm d.toList := by
 obtain ⟨h1, _, h3⟩ := h
 refine ⟨h1, ?_⟩
 have e1 : d'.extract 0 d.size = d' := by rw [<- h1]; simp
 have e2 : d.extract 0 d.size = d := by simp
 rwa [e1, e2] at h3
theorem sortedIn_list {α : Type} [Inhabited α] {lt : α -> α -> Bool} {d : Array α} (h : Sort.SortedIn lt 0 d.size d) : d.toList.Pairwise (fun a b => lt b a = false) := by
 rw [List.pairwise_iff_getElem]
 intro i j hi hj hij
 have := h i j (Nat.zero_le _) hij (by simpa using hj)
 simp only [Array.length_toList] at hi hj
 rw [getElem!_pos d i hi, getElem!_pos d j hj] at this
 simpa using this

end Go.Bar
