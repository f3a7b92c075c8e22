/-
 Insertion sort is stable: by a finer order that agrees on (later, earlier) it comes to the same. Plain lemmas; no condition.
-/
import Derived.Test.YtgabmfibfikdbaaGreatDoorZLib13

namespace Go.Bar
open Go.RowKit

section
variable {α : Type} [Inhabited α] {lt lt' : α -> α -> Bool}
end

theorem flat_get {α : Type} (enc : α -> List Value) (k : Nat) (hk : ∀ x, (enc x).length = k) : ∀ (l : List α) (i : Nat) (x : α), l[i]? = some x -> ∀ j, j < k -> (l.flatMap enc)[i * k + j]? = (enc x)[j]?
 | [], i, x, h, _, _ => by simp at h
 | y :: l, 0, x, h, j, hj => by
  simp at h
  subst h
  rw [List.flatMap_cons, Nat.zero_mul, Nat.zero_add, List.getElem?_append_left (by rw [hk]; exact hj)]
 | y :: l, i + 1, x, h, j, hj => by
  rw [List.flatMap_cons, List.getElem?_append_right (by rw [hk, Nat.add_mul]; omega), hk, show (i + 1) * k + j - k = i * k + j by rw [Nat.add_mul]; omega]
  exact flat_get enc k hk l i x (by simpa using h) j hj
theorem flat_length {α : Type} (enc : α -> List Value) (k : Nat) (hk : ∀ x, (enc x).length = k) : ∀ (l : List α), (l.flatMap enc).length = l.length * k
 | [] => by simp
 | y :: l => by rw [List.flatMap_cons, List.length_append, hk, flat_length enc k hk l, List.length_cons, Nat.add_mul]; omega
theorem flat_take {α : Type} (enc : α -> List Value) (k : Nat) (hk : ∀ x, (enc x).length = k) : ∀ (l : List α) (n : Nat), (l.flatMap enc).take (n * k) = (l.take n).flatMap enc
 | [], n => by simp
 | y :: l, 0 => by simp
 | y :: l, n + 1 => by
  rw [List.take_succ_cons, List.flatMap_cons, List.flatMap_cons, List.take_append, hk, List.take_of_length_le (by rw [hk, Nat.add_mul]; omega), show (n + 1) * k - k = n * k by rw [Nat.add_mul]; omega, flat_take enc k hk l n]
theorem flat_drop {α : Type} (enc : α -> List Value) (k : Nat) (hk : ∀ x, (enc x).length = k) : ∀ (l : List α) (n : Nat), (l.flatMap enc).drop (n * k) = (l.drop n).flatMap enc
 | [], n => by simp
 | y :: l, 0 => by simp
 | y :: l, n + 1 => by
  rw [List.drop_succ_cons, List.flatMap_cons, List.drop_append, hk, List.drop_of_length_le (by rw [hk, Nat.add_mul]; omega), show (n + 1) * k - k = n * k by rw [Nat.add_mul]; omega, flat_drop enc k hk l n, List.nil_append]
end Go.Bar
