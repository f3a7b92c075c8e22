/-
  Buffers of the call's own beside blocks that are known. Plain lemmas over any program; no condition.
-/
import Derived.Test.YtemmgejaoegpfaaZLib9
import Derived.Shelf.SlSortCmp.WholeK

namespace Go.Bar
open Go.RowKit

section
variable {w wr w' : World} {e e' : TypeId} {sz sz' n n' : Nat} {v v' : Value} {xs xs' : List Value}
/-- a store to a known block of another element type, made since the call began -/
theorem NBuf.set_ne (h : NBuf w wr e sz v n xs) {M : Nat} {T : TypeId} {cur : Array Value} (hb : Blk wr M T cur) (hne : e ≠ T) (hM : w.heap.size ≤ M) (i : Nat) (u : Value) : NBuf w (wr.setCell ⟨M, i, none⟩ u) e sz v n xs :=
  ⟨h.buf.set_ne hb hne i u, h.below.setCell (p := ⟨M, i, none⟩) hM u, h.new⟩
theorem NBuf.fbuf (h : NBuf w wr e sz v n xs) : FBuf w wr e sz v n xs := ⟨h.buf, h.new⟩
/-- a store to a known block whose buffer has a block of its own: the block is another one -/
theorem NBuf.set_blk (h : NBuf w wr e sz v n xs) {M : Nat} (hM : w.heap.size ≤ M) (hv : v.ownBlock ≠ some M) (i : Nat) (u : Value) : NBuf w (wr.setCell ⟨M, i, none⟩ u) e sz v n xs :=
  ⟨h.buf.keep (fun k hk => Below.heap_setCell wr ⟨M, i, none⟩ u k (fun hkM => hv (by rw [hk]; exact congrArg some hkM))), h.below.setCell (p := ⟨M, i, none⟩) hM u, h.new⟩
theorem NBuf.lt (h : NBuf w wr e sz v n xs) (hn : 0 < n) : ∀ k, v.ownBlock = some k → k < wr.heap.size := h.buf.lt hn
end

theorem _root_.Go.RowKit.Below.drewN' {B : Nat} {a w : World} (h : Below B a w) (n : Nat) : Below B a (w.drewN n) := below_drewN h n
theorem _root_.Go.RowKit.Below.after_alloc {w : World} {o : Obj} {w' : World} (h : Below (w.alloc o).heap.size (w.alloc o) w') (o' : Obj) (_ : o = o' := by rfl) : Below w.heap.size w w' :=
  below_trans ((Below.refl _ _).alloc (Nat.le_refl _) _) h

end Go.Bar

/-
  Sorting: the kit's words on rows that a sort has turned, said of buffers. Plain lemmas over any program; no condition.
-/
namespace Go.Bar
open Go.RowKit

theorem flat_at {α : Type} [Inhabited α] (enc : α → List Value) (k : Nat) (hk : ∀ x, (enc x).length = k) : ∀ (l : List α) (t : Nat), t < l.length * k → (l.flatMap enc)[t]? = some ((enc (l[t / k]!))[t % k]!)
  | [], t, h => by simp at h
  | x :: r, t, h => by
    have k0 : 0 < k := by
      rcases Nat.eq_zero_or_pos k with h0 | h0
      · subst h0; simp at h
      · exact h0
    rw [List.flatMap_cons]
    by_cases ht : t < k
    · rw [List.getElem?_append_left (by rw [hk]; exact ht), Nat.div_eq_of_lt ht, Nat.mod_eq_of_lt ht, List.getElem?_eq_getElem (by rw [hk]; exact ht)]
      simp [hk, ht]
    · obtain ⟨s, rfl⟩ : ∃ s, t = s + k := ⟨t - k, by omega⟩
      rw [List.getElem?_append_right (by rw [hk]; omega), hk, Nat.add_sub_cancel, flat_at enc k hk r s (by rw [List.length_cons, Nat.add_mul] at h; omega), Nat.add_div_right _ k0, Nat.add_mod_right]
      simp
theorem flatK_at {α : Type} [Inhabited α] (enc : α → List Value) (k : Nat) (hk : ∀ x, (enc x).length = k) (d : Array α) (t : Nat) (h : t < d.size * k) : (d.toList.flatMap enc)[t]? = some ((Sort.flatK enc k d)[t]!) := by
  rw [flat_at enc k hk d.toList t (by simpa using h), Sort.get_flatK enc k d t h]
  simp [getElem!_def, Array.getElem?_toList]

/-- a buffer is a row that a sort may take -/
theorem Buf.holdsK {α : Type} [Inhabited α] {enc : α → List Value} {k : Nat} (hk : ∀ x, (enc x).length = k) {w : World} {e : TypeId} {b o c : Nat} {d : Array α}
    (h : Buf w e k (.slice (some ⟨b, o, none⟩) d.size c) d.size (d.toList.flatMap enc)) : Sort.HoldsK enc k w b o d := by
  intro j hj
  rw [Sort.size_flatK] at hj
  obtain ⟨h1, h2⟩ := h.cellN hj
  rw [flatK_at enc k hk d j hj] at h1
  exact ⟨h1, h2⟩

theorem sortWorldK_block {α : Type} [Inhabited α] (enc : α → List Value) (k : Nat) {w : World} {b o : Nat} (m : Nat) (d : Array α) (os : Array Obj) {cur : Array Value} {e : TypeId} {fr : Nat × Nat} (h : w.heap[b]? = some (.cells cur e fr)) :
    (Go.Proofs.sortWorldK enc k w b o m d os).heap[b]? = some (.cells (Sort.putCells id o (Sort.flatK enc k d) cur) e fr) := by
  have hlt : b < w.heap.size := (Array.getElem?_eq_some_iff.1 h).1
  unfold Go.Proofs.sortWorldK
  rw [Sort.heap_grow_old _ _ (by unfold Sort.putRowK; rw [Sort.size_putRow]; exact hlt)]
  unfold Sort.putRowK Sort.putRow Sort.mapBlock
  simp only [Sort.heap_ahead, Array.getElem?_modify, h, if_true, Option.map_some, Sort.onCells]
/-- what a sort leaves: all below its row -/
theorem sortWorldK_below {α : Type} [Inhabited α] (enc : α → List Value) (k : Nat) {w : World} {b o : Nat} (m : Nat) (d : Array α) (os : Array Obj) {B : Nat} (hB : B ≤ b) (hb : b < w.heap.size) : Below B w (Go.Proofs.sortWorldK enc k w b o m d os) := by
  refine ⟨rfl, rfl, rfl, ?_, fun j hj => ?_⟩
  · unfold Go.Proofs.sortWorldK Sort.putRowK
    rw [Sort.size_grow, Sort.size_putRow]
    exact Nat.le_add_right _ _
  · unfold Go.Proofs.sortWorldK Sort.putRowK
    rw [Sort.heap_grow_old _ _ (by rw [Sort.size_putRow, Sort.heap_ahead]; omega)]
    unfold Sort.putRow Sort.mapBlock
    simp only [Sort.heap_ahead, Array.getElem?_modify]
    rw [if_neg (by omega)]
/-- and the row itself -/
theorem Buf.sortWorldK {α : Type} [Inhabited α] {enc : α → List Value} {k : Nat} (hk : ∀ x, (enc x).length = k) {w : World} {e : TypeId} {b o c n : Nat} {xs : List Value}
    (h : Buf w e k (.slice (some ⟨b, o, none⟩) n c) n xs) (m : Nat) (d : Array α) (hd : d.size = n) (hn : 0 < n) (os : Array Obj) : Buf (Go.Proofs.sortWorldK enc k w b o m d os) e k (.slice (some ⟨b, o, none⟩) n c) n (d.toList.flatMap enc) := by
  obtain ⟨hl, A, c', hv, hnc, hcm, hx⟩ := h
  injection hv with h1 h2 h3
  subst h1; subst h3
  obtain ⟨b', o', cur, fr, h4, hb, hs, hf, hxs⟩ := hx (by omega)
  injection h4 with h4
  injection h4 with h4 h5 _
  subst h4; subst h5
  refine ⟨?_, _, c, rfl, hnc, hcm, fun _ => ⟨b, o, _, fr, rfl, sortWorldK_block enc k m d os hb, ?_, hf, fun j hj => ?_⟩⟩
  · rw [List.length_flatMap]
    have : (List.map (fun a => (enc a).length) d.toList).sum = d.toList.length * k := by
      generalize d.toList = l
      induction l with
      | nil => simp
      | cons x r ih => rw [List.map_cons, List.sum_cons, ih, hk, List.length_cons, Nat.add_mul]; omega
    rw [this, Array.length_toList, hd]
  · simpa [Sort.putCells] using hs
  · have hj' : j < d.size * k := by rw [hd]; exact hj
    have hmul := Nat.mul_le_mul_right k hnc
    rw [flatK_at enc k hk d j hj']
    unfold Sort.putCells
    rw [Array.getElem?_mapIdx, Array.getElem?_eq_getElem (by omega)]
    simp only [Option.map_some]
    rw [if_pos ⟨Nat.le_add_right _ _, by rw [Sort.size_flatK]; omega⟩, Nat.add_sub_cancel_left]
    rfl

theorem permIn_list {α : Type} [Inhabited α] {d d' : Array α} (h : Sort.PermIn 0 d.size d d') : d'.size = d.size ∧ d'.toList.Perm d.toList := by
  obtain ⟨h1, _, h3⟩ := h
  refine ⟨h1, ?_⟩
  have e1 : d'.extract 0 d.size = d' := by rw [← h1]; simp
  have e2 : d.extract 0 d.size = d := by simp
  rwa [e1, e2] at h3
theorem sortedIn_list {α : Type} [Inhabited α] {lt : α → α → Bool} {d : Array α} (h : Sort.SortedIn lt 0 d.size d) : d.toList.Pairwise (fun a b => lt b a = false) := by
  rw [List.pairwise_iff_getElem]
  intro i j hi hj hij
  have := h i j (Nat.zero_le _) hij (by simpa using hj)
  simp only [Array.length_toList] at hi hj
  rw [getElem!_pos d i hi, getElem!_pos d j hj] at this
  simpa using this

end Go.Bar

/-
  Insertion sort is stable: by a finer order that agrees on (later, earlier) it comes to the same. Plain lemmas; no condition.
-/
namespace Go.Bar
open Go.RowKit

section
variable {α : Type} [Inhabited α] {lt lt' : α → α → Bool}
theorem insInner_eq : ∀ (j : Nat) (d : Array α), j < d.size → (∀ p, p < j → lt' d[j]! d[p]! = lt d[j]! d[p]!) → Sort.insInner lt' 0 j d = Sort.insInner lt 0 j d
  | 0, d, _, _ => rfl
  | j + 1, d, hj, h => by
    unfold Sort.insInner
    rw [h j (by omega)]
    split
    · have g := Sort.swp_get d hj (show j < d.size by omega)
      refine insInner_eq j _ (by rw [Sort.swp_size]; omega) (fun p hp => ?_)
      rw [g, g, if_pos rfl, if_neg (by omega), if_neg (by omega)]
      exact h p (by omega)
    · rfl
theorem insInner_permIn (b : Nat) : ∀ (j : Nat) (d : Array α), j < b → b ≤ d.size → Sort.PermIn 0 b d (Sort.insInner lt 0 j d)
  | 0, d, _, _ => Sort.permIn_refl d 0 b
  | j + 1, d, hj, hb => by
    unfold Sort.insInner
    split
    · exact Sort.permIn_trans _ _ _ 0 b (Sort.swp_permIn d 0 b (j + 1) j (Nat.zero_le _) hj (Nat.zero_le _) (by omega) hb) (insInner_permIn b j _ (by omega) (by rw [Sort.swp_size]; exact hb))
    · exact Sort.permIn_refl d 0 b
theorem insOuter_eq (b : Nat) : ∀ (n i : Nat) (d : Array α), b - i = n → b ≤ d.size → (∀ p q, p < q → i ≤ q → q < d.size → lt' d[q]! d[p]! = lt d[q]! d[p]!) → Sort.insOuter lt' 0 b i d = Sort.insOuter lt 0 b i d
  | 0, i, d, hn, _, _ => by
    unfold Sort.insOuter
    rw [if_neg (by omega), if_neg (by omega)]
  | n + 1, i, d, hn, hb, h => by
    unfold Sort.insOuter
    rw [if_pos (by omega), if_pos (by omega), insInner_eq i d (by omega) (fun p hp => h p i hp (Nat.le_refl _) (by omega))]
    have hp := insInner_permIn (lt := lt) (i + 1) i d (by omega) (by omega)
    refine insOuter_eq b n (i + 1) _ (by omega) (by rw [hp.1]; exact hb) (fun p q hpq hiq hq => ?_)
    rw [hp.1] at hq
    rw [hp.2.1 q (.inr hiq)]
    by_cases hpi : p < i + 1
    · exact Sort.permIn_all d _ 0 (i + 1) (fun x => lt' d[q]! x = lt d[q]! x) (by omega) hp (fun k _ hk => h k q (by omega) (by omega) hq) p (Nat.zero_le _) hpi
    · rw [hp.2.1 p (.inr (by omega))]
      exact h p q hpq (by omega) hq
theorem insertion_stable (hS : Sort.SWO lt') (d : Array α) (h : ∀ p q, p < q → q < d.size → lt' d[q]! d[p]! = lt d[q]! d[p]!) :
    (Sort.insertionSort lt d 0 d.size).size = d.size ∧ (Sort.insertionSort lt d 0 d.size).toList.Perm d.toList ∧ (Sort.insertionSort lt d 0 d.size).toList.Pairwise (fun a b => lt' b a = false) := by
  have e : Sort.insertionSort lt' d 0 d.size = Sort.insertionSort lt d 0 d.size := by
    unfold Sort.insertionSort
    exact insOuter_eq d.size _ 1 d rfl (Nat.le_refl _) (fun p q hpq _ hq => h p q hpq hq)
  obtain ⟨h1, h2⟩ := Sort.insertionSort_holds (lt := lt') hS d 0 d.size (Nat.zero_le _) (Nat.le_refl _)
  rw [e] at h1 h2
  obtain ⟨p1, p2⟩ := permIn_list h1
  exact ⟨p1, p2, sortedIn_list (by rw [p1]; exact h2)⟩
end

/-- the cells of the i-th of elements of k cells each -/
theorem flat_get {α : Type} (enc : α → List Value) (k : Nat) (hk : ∀ x, (enc x).length = k) : ∀ (l : List α) (i : Nat) (x : α), l[i]? = some x → ∀ j, j < k → (l.flatMap enc)[i * k + j]? = (enc x)[j]?
  | [], i, x, h, _, _ => by simp at h
  | y :: l, 0, x, h, j, hj => by
    simp at h
    subst h
    rw [List.flatMap_cons, Nat.zero_mul, Nat.zero_add, List.getElem?_append_left (by rw [hk]; exact hj)]
  | y :: l, i + 1, x, h, j, hj => by
    rw [List.flatMap_cons, List.getElem?_append_right (by rw [hk, Nat.add_mul]; omega), hk, show (i + 1) * k + j - k = i * k + j by rw [Nat.add_mul]; omega]
    exact flat_get enc k hk l i x (by simpa using h) j hj
theorem flat_length {α : Type} (enc : α → List Value) (k : Nat) (hk : ∀ x, (enc x).length = k) : ∀ (l : List α), (l.flatMap enc).length = l.length * k
  | [] => by simp
  | y :: l => by rw [List.flatMap_cons, List.length_append, hk, flat_length enc k hk l, List.length_cons, Nat.add_mul]; omega
theorem flat_take {α : Type} (enc : α → List Value) (k : Nat) (hk : ∀ x, (enc x).length = k) : ∀ (l : List α) (n : Nat), (l.flatMap enc).take (n * k) = (l.take n).flatMap enc
  | [], n => by simp
  | y :: l, 0 => by simp
  | y :: l, n + 1 => by
    rw [List.take_succ_cons, List.flatMap_cons, List.flatMap_cons, List.take_append, hk, List.take_of_length_le (by rw [hk, Nat.add_mul]; omega), show (n + 1) * k - k = n * k by rw [Nat.add_mul]; omega, flat_take enc k hk l n]
theorem flat_drop {α : Type} (enc : α → List Value) (k : Nat) (hk : ∀ x, (enc x).length = k) : ∀ (l : List α) (n : Nat), (l.flatMap enc).drop (n * k) = (l.drop n).flatMap enc
  | [], n => by simp
  | y :: l, 0 => by simp
  | y :: l, n + 1 => by
    rw [List.drop_succ_cons, List.flatMap_cons, List.drop_append, hk, List.drop_of_length_le (by rw [hk, Nat.add_mul]; omega), show (n + 1) * k - k = n * k by rw [Nat.add_mul]; omega, flat_drop enc k hk l n, List.nil_append]
theorem flat_one {α : Type} (enc : α → List Value) (h1 : ∀ x, ∀ v ∈ enc x, v.oneCell' = true) (l : List α) : ∀ v ∈ l.flatMap enc, v.oneCell' = true := by
  intro v hv
  rw [List.mem_flatMap] at hv
  obtain ⟨x, _, hx⟩ := hv
  exact h1 x v hx
end Go.Bar
