/-
 Regions that draw their order and store into a known block: each store by an operation of its own; what the cells hold is told by which stores are done. Plain lemmas; no condition.
-/
import Derived.Test.YtgabmfibfikdbaaGreatDoorZLib19

namespace Go.Bar
open Go.RowKit

theorem below_al (w : World) (o : Obj) : Below w.heap.size w (w.alloc o) := (Below.refl _ _).alloc (Nat.le_refl _) o
abbrev Sts := List (Nat × Nat × Value)
def Sts.at_ (L : Sts) (D : Nat -> Bool) (i : Nat) : Option Value := (L.find? (fun e => e.2.1 == i && D e.1)).map (·.2.2)
def Sv (Q : Nat) (T : TypeId) (L : Sts) (cur0 : Array Value) (D : Nat -> Bool) (w : World) : Prop := ∃ cur, Blk w Q T cur /\ cur.size = cur0.size /\ ∀ i, i < cur0.size -> cur[i]? = (Sts.at_ L D i).or cur0[i]?
section
variable {Q : Nat} {T : TypeId} {L : Sts} {cur0 : Array Value} {D : Nat -> Bool} {w : World}
theorem Sv.start (h : Blk w Q T cur0) : Sv Q T L cur0 (fun _ => false) w := ⟨cur0, h, rfl, fun i _ => by
 have : Sts.at_ L (fun _ => false) i = none := by
  unfold Sts.at_
  rw [List.find?_eq_none.2 (by simp)]
  rfl
 rw [this, Option.none_or]⟩
theorem sts_upd {j : Nat} (h : ∀ e ∈ L, e.1 ≠ j) (i : Nat) : Sts.at_ L (Dn.upd D j) i = Sts.at_ L D i := by
 unfold Sts.at_
 congr 1
 induction L with
 | nil => rfl
 | cons e r ih =>
  rw [List.find?_cons, List.find?_cons, Dn.upd_ne D (h e (List.mem_cons_self ..)), ih (fun x hx => h x (List.mem_cons_of_mem _ hx))]
theorem Sv.same (h : Sv Q T L cur0 D w) {j : Nat} (hj : ∀ e ∈ L, e.1 ≠ j) : Sv Q T L cur0 (Dn.upd D j) w := by
 obtain ⟨cur, h1, h2, h3⟩ := h
 exact ⟨cur, h1, h2, fun i hi => by rw [sts_upd hj]; exact h3 i hi⟩
theorem Sv.below (h : Sv Q T L cur0 D w) {w' : World} (hb : Below w.heap.size w w') : Sv Q T L cur0 D w' := by obtain ⟨cur, h1, h2, h3⟩ := h; exact ⟨cur, h1.below hb, h2, h3⟩
theorem Sv.free (h : Sv Q T L cur0 D w) (i : Nat) : w.frozen? ⟨Q, i, none⟩ = false := by obtain ⟨cur, h1, _⟩ := h; exact h1.free i
theorem Sv.blk (h : Sv Q T L cur0 D w) : ∃ cur, Blk w Q T cur /\ cur.size = cur0.size := by obtain ⟨cur, h1, h2, _⟩ := h; exact ⟨cur, h1, h2⟩
theorem Sv.some_ (h : Sv Q T L cur0 D w) {i : Nat} (hi : i < cur0.size) : ∃ u, w.cell? ⟨Q, i, none⟩ = some u := by
 obtain ⟨cur, h1, h2, _⟩ := h
 exact ⟨_, h1.cell (Array.getElem?_eq_getElem (by omega))⟩
theorem Sv.load (h : Sv Q T L cur0 D w) {i : Nat} {u : Value} (hu : cur0[i]? = some u) (hi : ∀ e ∈ L, e.2.1 = i -> D e.1 = false) : w.cell? ⟨Q, i, none⟩ = some u := by
 obtain ⟨cur, h1, h2, h3⟩ := h
 refine h1.cell ?_
 rw [h3 i (Array.getElem?_eq_some_iff.1 hu).1]
 have : Sts.at_ L D i = none := by
  unfold Sts.at_
  rw [List.find?_eq_none.2]
  ·rfl
  ·intro e he
   simp only [Bool.and_eq_true, beq_iff_eq, not_and, Bool.not_eq_true]
   exact hi e he
 rw [this, Option.none_or]
 exact hu
open Classical in
theorem Sv.set (h : Sv Q T L cur0 D w) {m j : Nat} {v : Value} (hm : (m, j, v) ∈ L) (hn1 : (L.map (·.1)).Nodup) (hn2 : (L.map (·.2.1)).Nodup) : Sv Q T L cur0 (Dn.upd D m) (w.setCell ⟨Q, j, none⟩ v) := by
 obtain ⟨cur, h1, h2, h3⟩ := h
 refine ⟨cur.setIfInBounds j v, h1.set j v, by rw [Array.size_setIfInBounds]; exact h2, fun i hi => ?_⟩
 have key : ∀ L' : Sts, (∀ e ∈ L', e ∈ L) -> Sts.at_ L' (Dn.upd D m) i = if i = j /\ (m, j, v) ∈ L' then some v else Sts.at_ L' D i := by
  intro L' hL'
  have uniq : ∀ e ∈ L, (e.1 = m -> e = (m, j, v)) /\ (e.2.1 = j -> e = (m, j, v)) := by
   have h1 : ∀ {α β : Type} (f : α -> β) (l : List α), (l.map f).Nodup -> ∀ a ∈ l, ∀ b ∈ l, f a = f b -> a = b := by
    intro α β f l
    induction l with
    | nil => intro _ a ha; cases ha
    | cons x r ih =>
     intro hn a ha b hb he
     rw [List.map_cons, List.nodup_cons] at hn
     rcases List.mem_cons.1 ha with ea | ha'
     ·rcases List.mem_cons.1 hb with eb | hb'
      ·rw [ea, eb]
      ·exact absurd (show f x ∈ r.map f by rw [<- ea, he]; exact List.mem_map_of_mem hb') hn.1
     ·rcases List.mem_cons.1 hb with eb | hb'
      ·exact absurd (show f x ∈ r.map f by rw [<- eb, <- he]; exact List.mem_map_of_mem ha') hn.1
      ·exact ih hn.2 a ha' b hb' he
   exact fun e he => ⟨fun h => h1 (·.1) L hn1 e he _ hm h, fun h => h1 (·.2.1) L hn2 e he _ hm h⟩
  induction L' with
  | nil => simp [Sts.at_]
  | cons e r ih =>
   have ih := ih (fun x hx => hL' x (List.mem_cons_of_mem _ hx))
   have he := uniq e (hL' e (List.mem_cons_self ..))
   unfold Sts.at_ at ih ⊢
   rw [List.find?_cons, List.find?_cons]
   by_cases hem : e.1 = m
   ·have e1 := he.1 hem
    subst e1
    rw [Dn.upd_self, Bool.and_true]
    by_cases hij : i = j
    ·subst hij
     rw [beq_self_eq_true, if_pos ⟨rfl, List.mem_cons_self ..⟩]
     rfl
    ·rw [show (j == i) = false from beq_eq_false_iff_ne.2 (fun h => hij h.symm), if_neg (fun h => hij h.1), Bool.false_and]
     simp only
     rw [ih, if_neg (fun h => hij h.1)]
   ·rw [Dn.upd_ne D hem]
    rcases hc : (e.2.1 == i && D e.1)
    ·simp only
     rw [ih]
     by_cases hij : i = j /\ (m, j, v) ∈ r
     ·rw [if_pos hij, if_pos ⟨hij.1, List.mem_cons_of_mem _ hij.2⟩]
     ·rw [if_neg hij, if_neg (fun h => hij ⟨h.1, by
       rcases List.mem_cons.1 h.2 with h2 | h2
       ·exact absurd (by rw [<- h2]) hem
       ·exact h2⟩)]
    ·simp only [Bool.and_eq_true, beq_iff_eq] at hc
     have hij : i ≠ j := fun h => hem (by rw [he.2 (hc.1.trans h)])
     simp only
     rw [if_neg (fun h => hij h.1)]
 rw [key L (fun _ h => h)]
 by_cases hij : i = j
 ·subst hij
  rw [if_pos ⟨rfl, hm⟩, Option.some_or]
  exact Array.getElem?_setIfInBounds_self_of_lt (by omega)
 ·rw [if_neg (fun h => hij h.1), Array.getElem?_setIfInBounds_ne (fun h => hij h.symm)]
  exact h3 i hi
theorem Sv.end_ (h : Sv Q T L cur0 D w) (hD : ∀ e ∈ L, D e.1 = true) (cur1 : Array Value) (hs : cur1.size = cur0.size) (hc : ∀ i, i < cur0.size -> cur1[i]? = ((L.find? (fun e => e.2.1 == i)).map (·.2.2)).or cur0[i]?) : Blk w Q T cur1 := by
 obtain ⟨cur, h1, h2, h3⟩ := h
 have hf : ∀ (L' : Sts) (i : Nat), (∀ e ∈ L', D e.1 = true) -> L'.find? (fun e => e.2.1 == i && D e.1) = L'.find? (fun e => e.2.1 == i) := by
  intro L' i hL'
  induction L' with
  | nil => rfl
  | cons e r ih =>
   rw [List.find?_cons, List.find?_cons, hL' e (List.mem_cons_self ..), Bool.and_true, ih (fun x hx => hL' x (List.mem_cons_of_mem _ hx))]
 have : cur = cur1 := by
  refine Array.ext_getElem? fun i => ?_
  by_cases hi : i < cur0.size
  ·rw [h3 i hi, hc i hi]
   unfold Sts.at_
   rw [hf L i hD]
  ·rw [Array.getElem?_eq_none (by omega), Array.getElem?_eq_none (by omega)]
 rw [<- this]
 exact h1
end
end Go.Bar
