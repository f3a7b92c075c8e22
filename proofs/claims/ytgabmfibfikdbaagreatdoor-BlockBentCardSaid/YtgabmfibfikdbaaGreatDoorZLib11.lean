/-
  A region that draws its order and writes once, at its end. Plain lemmas over any program; no condition.
-/
import Derived.Test.YtgabmfibfikdbaaGreatDoorZLib6
import Derived.Test.YtgabmfibfikdbaaGreatDoorZLib8
import Derived.Shelf.SlSortCmp.WholeK
import Derived.Test.YtgabmfibfikdbaaGreatDoorZBokM
import Derived.Test.YtgabmfibfikdbaaGreatDoorZLib4

namespace Go.Bar
open Go.RowKit

/-- all operations but the last (m) read, or call and leave the world; m leaves w1 -/
def LX (m : Nat) (w0 w1 : World) (D : Nat → Bool) (w : World) : Prop := (D m = false → w = w0) ∧ (D m = true → w = w1 ∧ ∀ i, i < m → D i = true)
section
variable {m i : Nat} {w0 w1 w : World} {D : Nat → Bool}
theorem LX.start : LX m w0 w1 (fun _ => false) w0 := ⟨fun _ => rfl, fun h => by cases h⟩
theorem LX.pure {L : List (Nat × Value)} (hm : (L.lookup m).isSome = true) : ∀ i D wx, L.lookup i = none → LX m w0 w1 D wx → LX m w0 w1 (Dn.upd D i) wx := by
  intro i D wx hi h
  have hne : m ≠ i := by rintro rfl; rw [hi] at hm; cases hm
  refine ⟨fun g => h.1 (by rwa [Dn.upd_ne D hne] at g), fun g => ?_⟩
  rw [Dn.upd_ne D hne] at g
  obtain ⟨h1, h2⟩ := h.2 g
  refine ⟨h1, fun j hj => ?_⟩
  by_cases hji : j = i
  · subst hji; exact Dn.upd_self D j
  · rw [Dn.upd_ne D hji]; exact h2 j hj
theorem LX.no (h : LX m w0 w1 D w) (hi : D i = false) (him : i < m) : D m = false := by
  rcases hd : D m with _ | _
  · rfl
  · have := (h.2 hd).2 i him
    rw [hi] at this; cases this
theorem LX.at_ (h : LX m w0 w1 D w) (hi : D i = false) (him : i < m) : w = w0 := h.1 (h.no hi him)
theorem LX.read (h : LX m w0 w1 D w) (hi : D i = false) (him : i < m) : LX m w0 w1 (Dn.upd D i) w :=
  ⟨fun _ => h.at_ hi him, fun g => by rw [Dn.upd_ne D (by omega), h.no hi him] at g; cases g⟩
theorem LX.last (h : ∀ i, i < m → D i = true) : LX m w0 w1 (Dn.upd D m) w1 :=
  ⟨fun g => (by rw [Dn.upd_self] at g; cases g), fun _ => ⟨rfl, fun j hj => by rw [Dn.upd_ne D (by omega)]; exact h j hj⟩⟩
theorem LX.end_ (h : LX m w0 w1 D w) (hD : D m = true) : w = w1 := (h.2 hD).1
end
theorem pre_all {ops : Array Oper} {m : Nat} {D : Nat → Bool} (hp : ∀ j, preB ops m j = true → D j = true) (h : ((List.range m).all fun j => preB ops m j) = true) : ∀ i, i < m → D i = true := fun i hi =>
  hp i (List.all_eq_true.1 h i (List.mem_range.2 hi))

/-- the like, where of the end only F is known -/
def LP (m : Nat) (w0 : World) (F : World → Prop) (D : Nat → Bool) (w : World) : Prop := (D m = false → w = w0) ∧ (D m = true → F w ∧ ∀ i, i < m → D i = true)
section
variable {m i : Nat} {w0 w w' : World} {F : World → Prop} {D : Nat → Bool}
theorem LP.start : LP m w0 F (fun _ => false) w0 := ⟨fun _ => rfl, fun h => by cases h⟩
theorem LP.pure {L : List (Nat × Value)} (hm : (L.lookup m).isSome = true) : ∀ i D wx, L.lookup i = none → LP m w0 F D wx → LP m w0 F (Dn.upd D i) wx := by
  intro i D wx hi h
  have hne : m ≠ i := by rintro rfl; rw [hi] at hm; cases hm
  refine ⟨fun g => h.1 (by rwa [Dn.upd_ne D hne] at g), fun g => ?_⟩
  rw [Dn.upd_ne D hne] at g
  obtain ⟨h1, h2⟩ := h.2 g
  refine ⟨h1, fun j hj => ?_⟩
  by_cases hji : j = i
  · subst hji; exact Dn.upd_self D j
  · rw [Dn.upd_ne D hji]; exact h2 j hj
theorem LP.no (h : LP m w0 F D w) (hi : D i = false) (him : i < m) : D m = false := by
  rcases hd : D m with _ | _
  · rfl
  · have := (h.2 hd).2 i him
    rw [hi] at this; cases this
theorem LP.at_ (h : LP m w0 F D w) (hi : D i = false) (him : i < m) : w = w0 := h.1 (h.no hi him)
theorem LP.read (h : LP m w0 F D w) (hi : D i = false) (him : i < m) : LP m w0 F (Dn.upd D i) w :=
  ⟨fun _ => h.at_ hi him, fun g => by rw [Dn.upd_ne D (by omega), h.no hi him] at g; cases g⟩
theorem LP.last (h : ∀ i, i < m → D i = true) (hF : F w') : LP m w0 F (Dn.upd D m) w' :=
  ⟨fun g => (by rw [Dn.upd_self] at g; cases g), fun _ => ⟨hF, fun j hj => by rw [Dn.upd_ne D (by omega)]; exact h j hj⟩⟩
theorem LP.end_ (h : LP m w0 F D w) (hD : D m = true) : F w := (h.2 hD).1
end

/-- the cells of a buffer: what they hold; they may be written -/
theorem Buf.cellN {w : World} {e : TypeId} {sz n b o c : Nat} {xs : List Value} (h : Buf w e sz (.slice (some ⟨b, o, none⟩) n c) n xs) {j : Nat} (hj : j < n * sz) : w.cell? ⟨b, o + j, none⟩ = xs[j]? ∧ w.frozen? ⟨b, o + j, none⟩ = false := by
  obtain ⟨hl, A, c', hv', hnc, hc, hv⟩ := h
  injection hv' with h1 h2 h3
  subst h1; subst h3
  have h0 : 0 < n := by
    rcases Nat.eq_zero_or_pos n with h | h
    · subst h; simp at hj
    · exact h
  obtain ⟨b', o', cur, fr, h4, hbk, hs, hf, hx⟩ := hv (by omega)
  injection h4 with h4
  injection h4 with h4 h5 _
  subst h4; subst h5
  have hmul : n * sz ≤ c * sz := Nat.mul_le_mul_right _ hnc
  refine ⟨(cell_of_block hbk _).trans (hx j hj), ?_⟩
  have := hf (o + j) (by omega) (by omega)
  have e0 : w.frozen? ⟨b, o + j, none⟩ = (decide (fr.1 ≤ o + j) && decide (o + j < fr.2)) := by simp only [World.frozen?, hbk]
  rw [e0, Bool.eq_false_iff]
  intro hh
  simp only [Bool.and_eq_true, decide_eq_true_eq] at hh
  exact this hh
theorem Buf.some_at {w : World} {e : TypeId} {sz n c : Nat} {A : Option Addr} {xs : List Value} (h : Buf w e sz (.slice A n c) n xs) (hn : 0 < n) : ∃ b o, A = some ⟨b, o, none⟩ ∧ b < w.heap.size := by
  obtain ⟨hl, A', c', hv', hnc, hc, hv⟩ := h
  injection hv' with h1 h2 h3
  subst h1; subst h3
  obtain ⟨b, o, cur, fr, rfl, hbk, _⟩ := hv (by omega)
  exact ⟨b, o, rfl, (Array.getElem?_eq_some_iff.1 hbk).1⟩
/-- a store into a buffer leaves one of another element type -/
theorem Buf.set_other {w : World} {e e' : TypeId} {sz sz' n n' b o c' : Nat} {v : Value} {xs xs' : List Value} (h : Buf w e sz v n xs) (h' : Buf w e' sz' (.slice (some ⟨b, o, none⟩) n' c') n' xs') (hn' : 0 < n') (hne : e ≠ e') (i : Nat) (u : Value) : Buf (w.setCell ⟨b, i, none⟩ u) e sz v n xs := by
  obtain ⟨hl, A, c, rfl, hnc, hc, hv⟩ := h
  refine ⟨hl, A, c, rfl, hnc, hc, fun h0 => ?_⟩
  obtain ⟨b1, o1, cur, fr, rfl, hbk, hs, hf, hx⟩ := hv h0
  obtain ⟨hl', A', c2, hv2, hnc', hc2, hv'2⟩ := h'
  injection hv2 with a1 a2 a3
  subst a1; subst a3
  obtain ⟨b2, o2, cur2, fr2, h4, hb2, _⟩ := hv'2 (by omega)
  injection h4 with h4
  injection h4 with h4
  subst h4
  have hbM : b1 ≠ b := by
    rintro rfl
    rw [hbk] at hb2
    injection hb2 with hb2
    injection hb2 with _ hb2 _
    exact hne hb2
  exact ⟨b1, o1, cur, fr, rfl, (Below.heap_setCell w ⟨b, i, none⟩ u b1 hbM).trans hbk, hs, hf, hx⟩
/-- a block of eight cells is stored whole -/
def st8 (w : World) (B : Nat) (v0 v1 v2 v3 v4 v5 v6 v7 : Value) : World := ((((((((w.setCell ⟨B, 0, none⟩ v0).setCell ⟨B, 1, none⟩ v1).setCell ⟨B, 2, none⟩ v2).setCell ⟨B, 3, none⟩ v3).setCell ⟨B, 4, none⟩ v4).setCell ⟨B, 5, none⟩ v5).setCell ⟨B, 6, none⟩ v6).setCell ⟨B, 7, none⟩ v7)
section
variable {w : World} {B : Nat} {v0 v1 v2 v3 v4 v5 v6 v7 : Value} {T : TypeId}
theorem Blk.st8 {a0 a1 a2 a3 a4 a5 a6 a7 : Value} (h : Blk w B T #[a0, a1, a2, a3, a4, a5, a6, a7]) : Blk (st8 w B v0 v1 v2 v3 v4 v5 v6 v7) B T #[v0, v1, v2, v3, v4, v5, v6, v7] := by
  have := ((((((((h.set 0 v0).set 1 v1).set 2 v2).set 3 v3).set 4 v4).set 5 v5).set 6 v6).set 7 v7)
  unfold Go.Bar.st8
  simpa using this
theorem Below.st8 {a : World} {N : Nat} (hb : Below N a w) (hB : N ≤ B) : Below N a (st8 w B v0 v1 v2 v3 v4 v5 v6 v7) := by unfold Go.Bar.st8; exact ((((((((hb.setCell (p := ⟨B, 0, none⟩) hB v0).setCell (p := ⟨B, 1, none⟩) hB v1).setCell (p := ⟨B, 2, none⟩) hB v2).setCell (p := ⟨B, 3, none⟩) hB v3).setCell (p := ⟨B, 4, none⟩) hB v4).setCell (p := ⟨B, 5, none⟩) hB v5).setCell (p := ⟨B, 6, none⟩) hB v6).setCell (p := ⟨B, 7, none⟩) hB v7)
theorem FBuf.st8 {w0 : World} {e : TypeId} {sz n : Nat} {v : Value} {xs : List Value} {cur : Array Value} (h : FBuf w0 w e sz v n xs) (hb : Blk w B T cur) (hne : e ≠ T) : FBuf w0 (st8 w B v0 v1 v2 v3 v4 v5 v6 v7) e sz v n xs :=
  (FBuf.set_ne2 (FBuf.set_ne2 (FBuf.set_ne2 (FBuf.set_ne2 (FBuf.set_ne2 (FBuf.set_ne2 (FBuf.set_ne2 (FBuf.set_ne2 ⟨h, _, hb⟩ hne 0 v0) hne 1 v1) hne 2 v2) hne 3 v3) hne 4 v4) hne 5 v5) hne 6 v6) hne 7 v7).1
end
theorem ba1 (w : World) (o : Obj) : Below w.heap.size w (w.alloc o) := (Below.refl _ _).alloc (Nat.le_refl _) o
/-- a part of the world that operation m turns: A until then, A' from then on -/
def Sw (m : Nat) (A A' : World → Prop) (D : Nat → Bool) (w : World) : Prop := (D m = false → A w) ∧ (D m = true → A' w)
section
variable {m i : Nat} {A A' : World → Prop} {D : Nat → Bool} {w w' : World}
theorem Sw.start (h : A w) : Sw m A A' (fun _ => false) w := ⟨fun _ => h, fun h => by cases h⟩
theorem Sw.same (h : Sw m A A' D w) (hi : m ≠ i) : Sw m A A' (Dn.upd D i) w := ⟨fun g => h.1 (by rwa [Dn.upd_ne D hi] at g), fun g => h.2 (by rwa [Dn.upd_ne D hi] at g)⟩
theorem Sw.keep (h : Sw m A A' D w) (hi : m ≠ i) (h1 : A w → A w') (h2 : A' w → A' w') : Sw m A A' (Dn.upd D i) w' := ⟨fun g => h1 (h.1 (by rwa [Dn.upd_ne D hi] at g)), fun g => h2 (h.2 (by rwa [Dn.upd_ne D hi] at g))⟩
theorem Sw.done (h : A' w') : Sw m A A' (Dn.upd D m) w' := ⟨fun g => (by rw [Dn.upd_self] at g; cases g), fun _ => h⟩
theorem lookup_ne' {L : List (Nat × Value)} (hm : (L.lookup m).isSome = true) (hi : L.lookup i = none) : m ≠ i := by rintro rfl; rw [hi] at hm; cases hm
end
/-- operation m comes behind all ahead of it -/
def Cl (m : Nat) (D : Nat → Bool) : Prop := D m = true → ∀ i, i < m → D i = true
section
variable {m i : Nat} {D : Nat → Bool}
theorem Cl.start : Cl m (fun _ => false) := fun h => by cases h
theorem Cl.upd (h : Cl m D) (hi : m ≠ i) : Cl m (Dn.upd D i) := fun g j hj => by
  rw [Dn.upd_ne D hi] at g
  by_cases hji : j = i
  · subst hji; exact Dn.upd_self D j
  · rw [Dn.upd_ne D hji]; exact h g j hj
theorem Cl.no (h : Cl m D) (hi : D i = false) (him : i < m) : D m = false := by
  rcases hd : D m with _ | _
  · rfl
  · have := h hd i him
    rw [hi] at this; cases this
theorem Cl.last (h : ∀ i, i < m → D i = true) : Cl m (Dn.upd D m) := fun _ j hj => by rw [Dn.upd_ne D (by omega)]; exact h j hj
end

end Go.Bar

/-
  Sorting: the kit's words on rows that a sort has turned, said of buffers. Plain lemmas over any program; no condition.
-/
namespace Go.Bar
open Go.RowKit

theorem flat_at {α : Type} [Inhabited α] (enc : α → List Value) (k : Nat) (hk : ∀ x, (enc x).length = k) : ∀ (l : List α) (t : Nat), t < l.length * k → (l.flatMap enc)[t]? = some ((enc (l[t / k]!))[t % k]!)
  | [], t, h => by simp at h
  | x :: r, t, h => by
    have k0 : 0 < k := by
      rcases Nat.eq_zero_or_pos k with h0 | h0
      · subst h0; simp at h
      · exact h0
    rw [List.flatMap_cons]
    by_cases ht : t < k
    · rw [List.getElem?_append_left (by rw [hk]; exact ht), Nat.div_eq_of_lt ht, Nat.mod_eq_of_lt ht, List.getElem?_eq_getElem (by rw [hk]; exact ht)]
      simp [hk, ht]
    · obtain ⟨s, rfl⟩ : ∃ s, t = s + k := ⟨t - k, by omega⟩
      rw [List.getElem?_append_right (by rw [hk]; omega), hk, Nat.add_sub_cancel, flat_at enc k hk r s (by rw [List.length_cons, Nat.add_mul] at h; omega), Nat.add_div_right _ k0, Nat.add_mod_right]
      simp
theorem flatK_at {α : Type} [Inhabited α] (enc : α → List Value) (k : Nat) (hk : ∀ x, (enc x).length = k) (d : Array α) (t : Nat) (h : t < d.size * k) : (d.toList.flatMap enc)[t]? = some ((Sort.flatK enc k d)[t]!) := by
  rw [flat_at enc k hk d.toList t (by simpa using h), Sort.get_flatK enc k d t h]
  simp [getElem!_def, Array.getElem?_toList]

/-- a buffer is a row that a sort may take -/
theorem Buf.holdsK {α : Type} [Inhabited α] {enc : α → List Value} {k : Nat} (hk : ∀ x, (enc x).length = k) {w : World} {e : TypeId} {b o c : Nat} {d : Array α}
    (h : Buf w e k (.slice (some ⟨b, o, none⟩) d.size c) d.size (d.toList.flatMap enc)) : Sort.HoldsK enc k w b o d := by
  intro j hj
  rw [Sort.size_flatK] at hj
  obtain ⟨h1, h2⟩ := h.cellN hj
  rw [flatK_at enc k hk d j hj] at h1
  exact ⟨h1, h2⟩

theorem sortWorldK_block {α : Type} [Inhabited α] (enc : α → List Value) (k : Nat) {w : World} {b o : Nat} (m : Nat) (d : Array α) (os : Array Obj) {cur : Array Value} {e : TypeId} {fr : Nat × Nat} (h : w.heap[b]? = some (.cells cur e fr)) :
    (Go.Proofs.sortWorldK enc k w b o m d os).heap[b]? = some (.cells (Sort.putCells id o (Sort.flatK enc k d) cur) e fr) := by
  have hlt : b < w.heap.size := (Array.getElem?_eq_some_iff.1 h).1
  unfold Go.Proofs.sortWorldK
  rw [Sort.heap_grow_old _ _ (by unfold Sort.putRowK; rw [Sort.size_putRow]; exact hlt)]
  unfold Sort.putRowK Sort.putRow Sort.mapBlock
  simp only [Sort.heap_ahead, Array.getElem?_modify, h, if_true, Option.map_some, Sort.onCells]
/-- what a sort leaves: all below its row -/
theorem sortWorldK_below {α : Type} [Inhabited α] (enc : α → List Value) (k : Nat) {w : World} {b o : Nat} (m : Nat) (d : Array α) (os : Array Obj) {B : Nat} (hB : B ≤ b) (hb : b < w.heap.size) : Below B w (Go.Proofs.sortWorldK enc k w b o m d os) := by
  refine ⟨rfl, rfl, rfl, ?_, fun j hj => ?_⟩
  · unfold Go.Proofs.sortWorldK Sort.putRowK
    rw [Sort.size_grow, Sort.size_putRow]
    exact Nat.le_add_right _ _
  · unfold Go.Proofs.sortWorldK Sort.putRowK
    rw [Sort.heap_grow_old _ _ (by rw [Sort.size_putRow, Sort.heap_ahead]; omega)]
    unfold Sort.putRow Sort.mapBlock
    simp only [Sort.heap_ahead, Array.getElem?_modify]
    rw [if_neg (by omega)]
/-- and the row itself -/
theorem Buf.sortWorldK {α : Type} [Inhabited α] {enc : α → List Value} {k : Nat} (hk : ∀ x, (enc x).length = k) {w : World} {e : TypeId} {b o c n : Nat} {xs : List Value}
    (h : Buf w e k (.slice (some ⟨b, o, none⟩) n c) n xs) (m : Nat) (d : Array α) (hd : d.size = n) (hn : 0 < n) (os : Array Obj) : Buf (Go.Proofs.sortWorldK enc k w b o m d os) e k (.slice (some ⟨b, o, none⟩) n c) n (d.toList.flatMap enc) := by
  obtain ⟨hl, A, c', hv, hnc, hcm, hx⟩ := h
  injection hv with h1 h2 h3
  subst h1; subst h3
  obtain ⟨b', o', cur, fr, h4, hb, hs, hf, hxs⟩ := hx (by omega)
  injection h4 with h4
  injection h4 with h4 h5 _
  subst h4; subst h5
  refine ⟨?_, _, c, rfl, hnc, hcm, fun _ => ⟨b, o, _, fr, rfl, sortWorldK_block enc k m d os hb, ?_, hf, fun j hj => ?_⟩⟩
  · rw [List.length_flatMap]
    have : (List.map (fun a => (enc a).length) d.toList).sum = d.toList.length * k := by
      generalize d.toList = l
      induction l with
      | nil => simp
      | cons x r ih => rw [List.map_cons, List.sum_cons, ih, hk, List.length_cons, Nat.add_mul]; omega
    rw [this, Array.length_toList, hd]
  · simpa [Sort.putCells] using hs
  · have hj' : j < d.size * k := by rw [hd]; exact hj
    have hmul := Nat.mul_le_mul_right k hnc
    rw [flatK_at enc k hk d j hj']
    unfold Sort.putCells
    rw [Array.getElem?_mapIdx, Array.getElem?_eq_getElem (by omega)]
    simp only [Option.map_some]
    rw [if_pos ⟨Nat.le_add_right _ _, by rw [Sort.size_flatK]; omega⟩, Nat.add_sub_cancel_left]
    rfl

theorem permIn_list {α : Type} [Inhabited α] {d d' : Array α} (h : Sort.PermIn 0 d.size d d') : d'.size = d.size ∧ d'.toList.Perm d.toList := by
  obtain ⟨h1, _, h3⟩ := h
  refine ⟨h1, ?_⟩
  have e1 : d'.extract 0 d.size = d' := by rw [← h1]; simp
  have e2 : d.extract 0 d.size = d := by simp
  rwa [e1, e2] at h3
theorem sortedIn_list {α : Type} [Inhabited α] {lt : α → α → Bool} {d : Array α} (h : Sort.SortedIn lt 0 d.size d) : d.toList.Pairwise (fun a b => lt b a = false) := by
  rw [List.pairwise_iff_getElem]
  intro i j hi hj hij
  have := h i j (Nat.zero_le _) hij (by simpa using hj)
  simp only [Array.length_toList] at hi hj
  rw [getElem!_pos d i hi, getElem!_pos d j hj] at this
  simpa using this

end Go.Bar

/-
  Insertion sort is stable: by a finer order that agrees on (later, earlier) it comes to the same. Plain lemmas; no condition.
-/
namespace Go.Bar
open Go.RowKit

section
variable {α : Type} [Inhabited α] {lt lt' : α → α → Bool}
end

/-- the cells of the i-th of elements of k cells each -/
theorem flat_get {α : Type} (enc : α → List Value) (k : Nat) (hk : ∀ x, (enc x).length = k) : ∀ (l : List α) (i : Nat) (x : α), l[i]? = some x → ∀ j, j < k → (l.flatMap enc)[i * k + j]? = (enc x)[j]?
  | [], i, x, h, _, _ => by simp at h
  | y :: l, 0, x, h, j, hj => by
    simp at h
    subst h
    rw [List.flatMap_cons, Nat.zero_mul, Nat.zero_add, List.getElem?_append_left (by rw [hk]; exact hj)]
  | y :: l, i + 1, x, h, j, hj => by
    rw [List.flatMap_cons, List.getElem?_append_right (by rw [hk, Nat.add_mul]; omega), hk, show (i + 1) * k + j - k = i * k + j by rw [Nat.add_mul]; omega]
    exact flat_get enc k hk l i x (by simpa using h) j hj
theorem flat_length {α : Type} (enc : α → List Value) (k : Nat) (hk : ∀ x, (enc x).length = k) : ∀ (l : List α), (l.flatMap enc).length = l.length * k
  | [] => by simp
  | y :: l => by rw [List.flatMap_cons, List.length_append, hk, flat_length enc k hk l, List.length_cons, Nat.add_mul]; omega
theorem flat_take {α : Type} (enc : α → List Value) (k : Nat) (hk : ∀ x, (enc x).length = k) : ∀ (l : List α) (n : Nat), (l.flatMap enc).take (n * k) = (l.take n).flatMap enc
  | [], n => by simp
  | y :: l, 0 => by simp
  | y :: l, n + 1 => by
    rw [List.take_succ_cons, List.flatMap_cons, List.flatMap_cons, List.take_append, hk, List.take_of_length_le (by rw [hk, Nat.add_mul]; omega), show (n + 1) * k - k = n * k by rw [Nat.add_mul]; omega, flat_take enc k hk l n]
theorem flat_drop {α : Type} (enc : α → List Value) (k : Nat) (hk : ∀ x, (enc x).length = k) : ∀ (l : List α) (n : Nat), (l.flatMap enc).drop (n * k) = (l.drop n).flatMap enc
  | [], n => by simp
  | y :: l, 0 => by simp
  | y :: l, n + 1 => by
    rw [List.drop_succ_cons, List.flatMap_cons, List.drop_append, hk, List.drop_of_length_le (by rw [hk, Nat.add_mul]; omega), show (n + 1) * k - k = n * k by rw [Nat.add_mul]; omega, flat_drop enc k hk l n, List.nil_append]
end Go.Bar

/-
  Buffers of the call's own beside blocks that are known. Plain lemmas over any program; no condition.
-/
namespace Go.Bar
open Go.RowKit

section
variable {w wr w' : World} {e e' : TypeId} {sz sz' n n' : Nat} {v v' : Value} {xs xs' : List Value}
/-- a store to a known block of another element type, made since the call began -/
theorem NBuf.set_ne (h : NBuf w wr e sz v n xs) {M : Nat} {T : TypeId} {cur : Array Value} (hb : Blk wr M T cur) (hne : e ≠ T) (hM : w.heap.size ≤ M) (i : Nat) (u : Value) : NBuf w (wr.setCell ⟨M, i, none⟩ u) e sz v n xs :=
  ⟨h.buf.set_ne hb hne i u, h.below.setCell (p := ⟨M, i, none⟩) hM u, h.new⟩
/-- a store to a known block whose buffer has a block of its own: the block is another one -/
theorem NBuf.set_blk (h : NBuf w wr e sz v n xs) {M : Nat} (hM : w.heap.size ≤ M) (hv : v.ownBlock ≠ some M) (i : Nat) (u : Value) : NBuf w (wr.setCell ⟨M, i, none⟩ u) e sz v n xs :=
  ⟨h.buf.keep (fun k hk => Below.heap_setCell wr ⟨M, i, none⟩ u k (fun hkM => hv (by rw [hk]; exact congrArg some hkM))), h.below.setCell (p := ⟨M, i, none⟩) hM u, h.new⟩
theorem NBuf.lt (h : NBuf w wr e sz v n xs) (hn : 0 < n) : ∀ k, v.ownBlock = some k → k < wr.heap.size := h.buf.lt hn
end

theorem _root_.Go.RowKit.Below.drewN' {B : Nat} {a w : World} (h : Below B a w) (n : Nat) : Below B a (w.drewN n) := below_drewN h n
theorem _root_.Go.RowKit.Below.after_alloc {w : World} {o : Obj} {w' : World} (h : Below (w.alloc o).heap.size (w.alloc o) w') (o' : Obj) (_ : o = o' := by rfl) : Below w.heap.size w w' :=
  below_trans ((Below.refl _ _).alloc (Nat.le_refl _) _) h

end Go.Bar

/-
  Library 25: what only turns blocks of some types.
-/
namespace Go.RowKit
open Go.Bar

/-- blocks of the types Ts may turn; others are as they were -/
structure Ke (Ts : TypeId → Prop) (w w' : World) : Prop where
  os : w'.os = w.os
  tape : w'.tape = w.tape
  output : w'.output = w.output
  size : w.heap.size ≤ w'.heap.size
  block : ∀ k, k < w.heap.size → (∀ cur T fr, w.heap[k]? = some (.cells cur T fr) → ¬ Ts T) → w'.heap[k]? = w.heap[k]?
section
variable {Ts : TypeId → Prop} {w w' : World}
theorem Ke.refl (Ts : TypeId → Prop) (w : World) : Ke Ts w w := ⟨rfl, rfl, rfl, Nat.le_refl _, fun _ _ _ => rfl⟩
theorem Ke.trans {a b c : World} (h : Ke Ts a b) (k : Ke Ts b c) : Ke Ts a c := ⟨k.os.trans h.os, k.tape.trans h.tape, k.output.trans h.output, Nat.le_trans h.size k.size, fun i hi ht => by
  have e := h.block i hi ht
  rw [k.block i (Nat.lt_of_lt_of_le hi h.size) (by rw [e]; exact ht), e]⟩
theorem Ke.of_below (h : Below w.heap.size w w') : Ke Ts w w' := ⟨h.os, h.tape, h.output, h.size, fun k hk _ => h.block k hk⟩
theorem Ke.wide {Us : TypeId → Prop} (h : Ke Ts w w') (hs : ∀ T, Ts T → Us T) : Ke Us w w' := ⟨h.os, h.tape, h.output, h.size, fun k hk ht => h.block k hk fun cur T fr he hT => ht cur T fr he (hs T hT)⟩
theorem Ke.blk (h : Ke Ts w w') {M : Nat} {T : TypeId} {cur : Array Value} (hb : Blk w M T cur) (hT : ¬ Ts T) : Blk w' M T cur := by
  refine (h.block M hb.lt fun cur' T' fr he => ?_).trans hb
  unfold Blk at hb
  rw [hb] at he
  injection he with he
  injection he with _ ht _
  subst ht
  exact hT
theorem Ke.buf (h : Ke Ts w w') {e : TypeId} {sz n : Nat} {v : Value} {xs : List Value} (hb : Buf w e sz v n xs) (hT : ¬ Ts e) : Buf w' e sz v n xs := by
  obtain ⟨hl, A, c, he, hnc, hc, hv⟩ := hb
  refine ⟨hl, A, c, he, hnc, hc, fun h0 => ?_⟩
  obtain ⟨b, o, cur, fr, hA, hbk, hs, hf, hx⟩ := hv h0
  refine ⟨b, o, cur, fr, hA, (h.block b (Array.getElem?_eq_some_iff.1 hbk).1 fun cur' T' fr' he' => ?_).trans hbk, hs, hf, hx⟩
  rw [hbk] at he'
  injection he' with he'
  injection he' with _ ht _
  subst ht
  exact hT
/-- a store into a variable -/
theorem Ke.of_set {M : Nat} {T : TypeId} {cur : Array Value} (h : Blk w M T cur) (hT : Ts T) (i : Nat) (u : Value) : Ke Ts w (w.setCell ⟨M, i, none⟩ u) := by
  have hf : Fr (fun k _ => k = M) w (w.setCell ⟨M, i, none⟩ u) := (Fr.refl (fun k _ => k = M) w).setCell (fun _ => rfl) _
  refine ⟨hf.os, hf.tape, hf.output, hf.size, fun k hk ht => hf.block hk fun j hj => ?_⟩
  have hj : k = M := hj
  subst hj
  exact ht _ _ _ h hT
/-- a store into a buffer -/
theorem Ke.of_buf {e : TypeId} {sz n b o c : Nat} {xs : List Value} (h : Buf w e sz (.slice (some ⟨b, o, none⟩) n c) n xs) (hn : 0 < n) (hT : Ts e) (i : Nat) (u : Value) : Ke Ts w (w.setCell ⟨b, i, none⟩ u) := by
  have hf : Fr (fun k _ => k = b) w (w.setCell ⟨b, i, none⟩ u) := (Fr.refl (fun k _ => k = b) w).setCell (fun _ => rfl) _
  refine ⟨hf.os, hf.tape, hf.output, hf.size, fun k hk ht => hf.block hk fun j hj => ?_⟩
  have hj : k = b := hj
  subst hj
  obtain ⟨_, A', c', he, hnc, _, hv⟩ := h
  injection he with h1 h2 h3
  subst h1; subst h3
  obtain ⟨b', o', cur, fr, h4, hbk, _⟩ := hv (by omega)
  injection h4 with h4
  injection h4 with h4 _ _
  subst h4
  exact ht _ _ _ hbk hT
/-- an append to a buffer -/
theorem Ke.of_ap {e : TypeId} {sz n : Nat} {v : Value} {xs : List Value} (hb : Buf w e sz v n xs) (ha : Ap w w' sz v) (hT : Ts e) : Ke Ts w w' := by
  refine ⟨ha.os, ha.tape, ha.output, ha.size, fun k hk ht => ?_⟩
  rcases ha.block k hk with h1 | ⟨o, n', c, cur, cur', e', fr, hv, h2, h3, h4, h5⟩
  · exact h1
  · obtain ⟨_, A, c', he, hnc, _, hval⟩ := hb
    rw [he] at hv
    injection hv with e1 e2 e3
    subst e1; subst e2; subst e3
    rcases Nat.eq_zero_or_pos c' with h0 | h0
    · subst h0
      have : cur' = cur := Array.ext_getElem? (fun i => h5 i (by omega))
      rw [h2, h3, this]
    · obtain ⟨b', o', cur2, fr2, hA, hbk, _⟩ := hval h0
      injection hA with hA
      injection hA with hA _ _
      subst hA
      exact absurd hT (ht _ _ _ hbk)
end
end Go.RowKit

/-
  Layer 14: rows of labels and samples in memory, tables of them.
-/
namespace Go.Proofs.YtgabmfibfikdbaaGreatDoor
open Go.RowKit Go.Bar Go.Bar.Leb Go.Bar.Lab Go.Bar.Xor Go.Bar.Mrg

/-- a row in memory: where its slices lie -/
structure Rv where
  ls : List Pr
  ss : List Sm
  la : Option Addr
  lc : Nat
  sa : Option Addr
  sc : Nat
def encR (x : Rv) : List Value := [.slice x.la x.ls.length x.lc, .slice x.sa x.ss.length x.sc]
/-- its slices are there -/
def RAt (w : World) (x : Rv) : Prop := PsAt w (.slice x.la x.ls.length x.lc) x.ls ∧ SmsAt w (.slice x.sa x.ss.length x.sc) x.ss
theorem RAt.below {w w' : World} {x : Rv} (h : RAt w x) (hb : Below w.heap.size w w') : RAt w' x := ⟨h.1.below hb, h.2.below hb⟩

/-- rows in cells -/
def rcs (l : List Rv) : List Value := l.flatMap encR
theorem encR_two (x : Rv) : (encR x).length = 2 := rfl
theorem rcs_app (l m : List Rv) : rcs (l ++ m) = rcs l ++ rcs m := List.flatMap_append
/-- a row's plain content -/
def plR (x : Rv) : Row := (x.ls, x.ss)
/-- a table in memory -/
def TbAt (w : World) (v : Value) (t : List Rv) : Prop := SlAt w 2 v t.length (rcs t) ∧ ∀ x ∈ t, RAt w x
section
variable {w w' : World} {v : Value} {t : List Rv}
theorem TbAt.below (h : TbAt w v t) (hb : Below w.heap.size w w') : TbAt w' v t := ⟨h.1.below hb, fun x hx => (h.2 x hx).below hb⟩
theorem TbAt.at_ {A : Option Addr} {n c i : Nat} {x : Rv} (h : TbAt w (.slice A n c) t) (hi : t[i]? = some x) : ∃ b o, A = some ⟨b, o, none⟩ ∧ w.cell? ⟨b, o + i * 2, none⟩ = some (.slice x.la x.ls.length x.lc) ∧ w.cell? ⟨b, o + i * 2 + 1, none⟩ = some (.slice x.sa x.ss.length x.sc) ∧ RAt w x := by
  have hlt : i < t.length := (List.getElem?_eq_some_iff.1 hi).1
  obtain ⟨A', c', he, _⟩ := h.1.shape
  injection he with e1 e2 e3
  subst e1; subst e2; subst e3
  obtain ⟨b, o, rfl, hb, hc⟩ := SlAt.cells h.1 (by omega)
  have g := flat_get encR 2 encR_two t i x hi
  have g0 := hc _ _ (g 0 (by omega))
  have g1 := hc _ _ (g 1 (by omega))
  exact ⟨b, o, rfl, g0, (by rw [Nat.add_assoc]; exact g1), h.2 x (List.mem_of_getElem? hi)⟩
end
theorem TbAt.at2 {w : World} {t : List Rv} {b o n c i : Nat} {x : Rv} (h : TbAt w (.slice (some ⟨b, o, none⟩) n c) t) (hi : t[i]? = some x) : w.cell? ⟨b, o + i * 2, none⟩ = some (.slice x.la x.ls.length x.lc) ∧ w.cell? ⟨b, o + i * 2 + 1, none⟩ = some (.slice x.sa x.ss.length x.sc) ∧ RAt w x := by
  obtain ⟨b', o', he, h1, h2, h3⟩ := h.at_ hi
  injection he with he
  injection he with e1 e2 _
  subst e1; subst e2
  exact ⟨h1, h2, h3⟩

theorem mrow_ty : ElemTy Tryz.prog 56 94 (.agg #[.slice none 0 0, .slice none 0 0]) 2 48 :=
  ⟨Tryz.underlying56, info_parts (show (Tryz.prog.info? 94).map (fun i => (i.zero, i.size, i.bytes)) = some (some (.agg #[.slice none 0 0, .slice none 0 0]), 2, 48) by kernel_rfl), rfl⟩

theorem rrow_ty : ElemTy Tryz.prog 57 62 (.agg #[.slice none 0 0, .slice none 0 0]) 2 48 :=
  ⟨Tryz.underlying57, info_parts (show (Tryz.prog.info? 62).map (fun i => (i.zero, i.size, i.bytes)) = some (some (.agg #[.slice none 0 0, .slice none 0 0]), 2, 48) by kernel_rfl), rfl⟩

/-- a table in a buffer of the call's own; its rows are readable -/
def RTb (W w : World) (T : TypeId) (v : Value) (t : List Rv) : Prop := NBuf W w T 2 v t.length (rcs t) ∧ ∀ x ∈ t, RAt w x
section
variable {W w w' : World} {T : TypeId} {v : Value} {t : List Rv}
theorem RTb.tb (h : RTb W w T v t) : TbAt w v t := ⟨h.1.slice, h.2⟩
theorem RTb.below (h : RTb W w T v t) (hb : Below w.heap.size w w') : RTb W w' T v t := ⟨h.1.then_below hb, fun x hx => (h.2 x hx).below hb⟩
theorem RTb.after {W0 : World} (h : RTb W w T v t) (hb : Below W0.heap.size W0 W) : RTb W0 w T v t := ⟨h.1.after hb, h.2⟩
theorem TbAt.shape {w : World} {v : Value} {t : List Rv} (h : TbAt w v t) : ∃ A c, v = .slice A t.length c ∧ t.length ≤ c ∧ c ≤ maxLen := h.1.shape
end

/-- a call that hands back a table of the call's own, of rows that it may have found -/
def RetTb (w : World) (T : TypeId) (R : List Row) (e : Ending) (w' : World) : Prop := ∃ v t, e = .returned v ∧ RTb w w' T v t ∧ t.map plR = R
end Go.Proofs.YtgabmfibfikdbaaGreatDoor
