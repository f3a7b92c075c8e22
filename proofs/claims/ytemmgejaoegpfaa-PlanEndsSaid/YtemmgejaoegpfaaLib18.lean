/-
  Insertion sort is stable: by a finer order that agrees on (later, earlier) it comes to the same. Plain lemmas; no condition.
-/
import Derived.Test.YtemmgejaoegpfaaLib13
namespace Go.Bar
open Go.RowKit

section
variable {α : Type} [Inhabited α] {lt lt' : α → α → Bool}
theorem insInner_eq : ∀ (j : Nat) (d : Array α), j < d.size → (∀ p, p < j → lt' d[j]! d[p]! = lt d[j]! d[p]!) → Sort.insInner lt' 0 j d = Sort.insInner lt 0 j d
  | 0, d, _, _ => rfl
  | j + 1, d, hj, h => by
    unfold Sort.insInner
    rw [h j (by omega)]
    split
    · have g := Sort.swp_get d hj (show j < d.size by omega)
      refine insInner_eq j _ (by rw [Sort.swp_size]; omega) (fun p hp => ?_)
      rw [g, g, if_pos rfl, if_neg (by omega), if_neg (by omega)]
      exact h p (by omega)
    · rfl
theorem insInner_permIn (b : Nat) : ∀ (j : Nat) (d : Array α), j < b → b ≤ d.size → Sort.PermIn 0 b d (Sort.insInner lt 0 j d)
  | 0, d, _, _ => Sort.permIn_refl d 0 b
  | j + 1, d, hj, hb => by
    unfold Sort.insInner
    split
    · exact Sort.permIn_trans _ _ _ 0 b (Sort.swp_permIn d 0 b (j + 1) j (Nat.zero_le _) hj (Nat.zero_le _) (by omega) hb) (insInner_permIn b j _ (by omega) (by rw [Sort.swp_size]; exact hb))
    · exact Sort.permIn_refl d 0 b
theorem insOuter_eq (b : Nat) : ∀ (n i : Nat) (d : Array α), b - i = n → b ≤ d.size → (∀ p q, p < q → i ≤ q → q < d.size → lt' d[q]! d[p]! = lt d[q]! d[p]!) → Sort.insOuter lt' 0 b i d = Sort.insOuter lt 0 b i d
  | 0, i, d, hn, _, _ => by
    unfold Sort.insOuter
    rw [if_neg (by omega), if_neg (by omega)]
  | n + 1, i, d, hn, hb, h => by
    unfold Sort.insOuter
    rw [if_pos (by omega), if_pos (by omega), insInner_eq i d (by omega) (fun p hp => h p i hp (Nat.le_refl _) (by omega))]
    have hp := insInner_permIn (lt := lt) (i + 1) i d (by omega) (by omega)
    refine insOuter_eq b n (i + 1) _ (by omega) (by rw [hp.1]; exact hb) (fun p q hpq hiq hq => ?_)
    rw [hp.1] at hq
    rw [hp.2.1 q (.inr hiq)]
    by_cases hpi : p < i + 1
    · exact Sort.permIn_all d _ 0 (i + 1) (fun x => lt' d[q]! x = lt d[q]! x) (by omega) hp (fun k _ hk => h k q (by omega) (by omega) hq) p (Nat.zero_le _) hpi
    · rw [hp.2.1 p (.inr (by omega))]
      exact h p q hpq (by omega) hq
theorem insertion_stable (hS : Sort.SWO lt') (d : Array α) (h : ∀ p q, p < q → q < d.size → lt' d[q]! d[p]! = lt d[q]! d[p]!) :
    (Sort.insertionSort lt d 0 d.size).size = d.size ∧ (Sort.insertionSort lt d 0 d.size).toList.Perm d.toList ∧ (Sort.insertionSort lt d 0 d.size).toList.Pairwise (fun a b => lt' b a = false) := by
  have e : Sort.insertionSort lt' d 0 d.size = Sort.insertionSort lt d 0 d.size := by
    unfold Sort.insertionSort
    exact insOuter_eq d.size _ 1 d rfl (Nat.le_refl _) (fun p q hpq _ hq => h p q hpq hq)
  obtain ⟨h1, h2⟩ := Sort.insertionSort_holds (lt := lt') hS d 0 d.size (Nat.zero_le _) (Nat.le_refl _)
  rw [e] at h1 h2
  obtain ⟨p1, p2⟩ := permIn_list h1
  exact ⟨p1, p2, sortedIn_list (by rw [p1]; exact h2)⟩
end

/-- the cells of the i-th of elements of k cells each -/
theorem flat_get {α : Type} (enc : α → List Value) (k : Nat) (hk : ∀ x, (enc x).length = k) : ∀ (l : List α) (i : Nat) (x : α), l[i]? = some x → ∀ j, j < k → (l.flatMap enc)[i * k + j]? = (enc x)[j]?
  | [], i, x, h, _, _ => by simp at h
  | y :: l, 0, x, h, j, hj => by
    simp at h
    subst h
    rw [List.flatMap_cons, Nat.zero_mul, Nat.zero_add, List.getElem?_append_left (by rw [hk]; exact hj)]
  | y :: l, i + 1, x, h, j, hj => by
    rw [List.flatMap_cons, List.getElem?_append_right (by rw [hk, Nat.add_mul]; omega), hk, show (i + 1) * k + j - k = i * k + j by rw [Nat.add_mul]; omega]
    exact flat_get enc k hk l i x (by simpa using h) j hj
theorem flat_length {α : Type} (enc : α → List Value) (k : Nat) (hk : ∀ x, (enc x).length = k) : ∀ (l : List α), (l.flatMap enc).length = l.length * k
  | [] => by simp
  | y :: l => by rw [List.flatMap_cons, List.length_append, hk, flat_length enc k hk l, List.length_cons, Nat.add_mul]; omega
theorem flat_take {α : Type} (enc : α → List Value) (k : Nat) (hk : ∀ x, (enc x).length = k) : ∀ (l : List α) (n : Nat), (l.flatMap enc).take (n * k) = (l.take n).flatMap enc
  | [], n => by simp
  | y :: l, 0 => by simp
  | y :: l, n + 1 => by
    rw [List.take_succ_cons, List.flatMap_cons, List.flatMap_cons, List.take_append, hk, List.take_of_length_le (by rw [hk, Nat.add_mul]; omega), show (n + 1) * k - k = n * k by rw [Nat.add_mul]; omega, flat_take enc k hk l n]
theorem flat_drop {α : Type} (enc : α → List Value) (k : Nat) (hk : ∀ x, (enc x).length = k) : ∀ (l : List α) (n : Nat), (l.flatMap enc).drop (n * k) = (l.drop n).flatMap enc
  | [], n => by simp
  | y :: l, 0 => by simp
  | y :: l, n + 1 => by
    rw [List.drop_succ_cons, List.flatMap_cons, List.drop_append, hk, List.drop_of_length_le (by rw [hk, Nat.add_mul]; omega), show (n + 1) * k - k = n * k by rw [Nat.add_mul]; omega, flat_drop enc k hk l n, List.nil_append]
theorem flat_one {α : Type} (enc : α → List Value) (h1 : ∀ x, ∀ v ∈ enc x, v.oneCell' = true) (l : List α) : ∀ v ∈ l.flatMap enc, v.oneCell' = true := by
  intro v hv
  rw [List.mem_flatMap] at hv
  obtain ⟨x, _, hx⟩ := hv
  exact h1 x v hx
end Go.Bar
