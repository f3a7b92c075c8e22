/-
  Layer 14: the plain theory of a stable sort by merging in place: rows as functions, exchanges, rotations; no program in sight; no condition.
-/
import Derived.Test.YtjklcojnbcemoaaGreatDoorZLib1

namespace Go.Bar.Mrg
open Go.RowKit Go.Bar

section
variable {α : Type}
/-- a row of n elements -/
def row (n : Nat) (f : Nat → α) : List α := (List.range n).map f
theorem row_len (n : Nat) (f : Nat → α) : (row n f).length = n := by unfold row; rw [List.length_map, List.length_range]
theorem row_at {n k : Nat} (f : Nat → α) (h : k < n) : (row n f)[k]? = some (f k) := by unfold row; rw [List.getElem?_map, List.getElem?_range h]; rfl
theorem row_congr {n : Nat} {f g : Nat → α} (h : ∀ k, k < n → f k = g k) : row n f = row n g := List.map_congr_left fun k hk => h k (List.mem_range.1 hk)
/-- two exchanged -/
def swf (i j : Nat) (f : Nat → α) : Nat → α := fun k => if k = i then f j else if k = j then f i else f k
/-- two ranges exchanged -/
def swr (a b n : Nat) (f : Nat → α) : Nat → α := fun k => if a ≤ k ∧ k < a + n then f (k - a + b) else if b ≤ k ∧ k < b + n then f (k - b + a) else f k
/-- a rotation -/
def rot (a m b : Nat) (f : Nat → α) : Nat → α := fun k => if a ≤ k ∧ k < b then (if k < a + (b - m) then f (k - a + m) else f (k - (b - m))) else f k
theorem swr_zero (a b : Nat) (f : Nat → α) : swr a b 0 f = f := by
  funext k; unfold swr
  rw [if_neg (by omega), if_neg (by omega)]
theorem swr_succ {a b n : Nat} (h : a + n < b) (f : Nat → α) : swr a b (n + 1) f = swf (a + n) (b + n) (swr a b n f) := by
  funext k; unfold swf
  by_cases h1 : k = a + n
  · rw [if_pos h1, h1]; unfold swr
    rw [if_pos (by omega), if_neg (by omega), if_neg (by omega)]
    congr 1; omega
  · rw [if_neg h1]
    by_cases h2 : k = b + n
    · rw [if_pos h2, h2]; unfold swr
      rw [if_neg (by omega), if_pos (by omega), if_neg (by omega), if_neg (by omega)]
      congr 1; omega
    · rw [if_neg h2]; unfold swr
      by_cases h3 : a ≤ k ∧ k < a + n
      · rw [if_pos h3, if_pos (by omega)]
      · rw [if_neg h3, if_neg (by omega)]
        by_cases h4 : b ≤ k ∧ k < b + n
        · rw [if_pos h4, if_pos (by omega)]
        · rw [if_neg h4, if_neg (by omega)]
/-- swf at equal values of the two -/
theorem rot_big {m i j : Nat} (hj : j < i) (hi : i ≤ m) (f : Nat → α) : rot (m - i + j) m (m + j) (swr (m - i) m j f) = rot (m - i) m (m + j) f := by
  funext k; unfold rot
  by_cases h1 : m - i + j ≤ k ∧ k < m + j
  · rw [if_pos h1, if_pos (show m - i ≤ k ∧ k < m + j by omega)]
    by_cases h2 : k < m - i + j + (m + j - m)
    · rw [if_pos h2, if_neg (by omega)]; unfold swr
      rw [if_neg (by omega), if_pos (by omega)]
      congr 1; omega
    · rw [if_neg h2, if_neg (by omega)]; unfold swr
      rw [if_neg (by omega), if_neg (by omega)]
  · rw [if_neg h1]
    by_cases h2 : m - i ≤ k ∧ k < m + j
    · rw [if_pos h2, if_pos (by omega)]; unfold swr
      rw [if_pos (by omega)]
    · rw [if_neg h2]; unfold swr
      rw [if_neg (by omega), if_neg (by omega)]
theorem rot_small {m i j : Nat} (hj : i < j) (hi : i ≤ m) (f : Nat → α) : rot (m - i) m (m + (j - i)) (swr (m - i) (m + j - i) i f) = rot (m - i) m (m + j) f := by
  funext k; unfold rot
  by_cases h1 : m - i ≤ k ∧ k < m + (j - i)
  · rw [if_pos h1, if_pos (show m - i ≤ k ∧ k < m + j by omega)]
    by_cases h2 : k < m - i + (m + (j - i) - m)
    · rw [if_pos h2, if_pos (by omega)]; unfold swr
      rw [if_neg (by omega), if_neg (by omega)]
    · rw [if_neg h2]; unfold swr
      rw [if_pos (by omega), if_pos (by omega)]
      congr 1; omega
  · rw [if_neg h1]
    by_cases h2 : m - i ≤ k ∧ k < m + j
    · rw [if_pos h2, if_neg (by omega)]; unfold swr
      rw [if_neg (by omega), if_pos (by omega)]
      congr 1; omega
    · rw [if_neg h2]; unfold swr
      rw [if_neg (by omega), if_neg (by omega)]
theorem rot_same {m i : Nat} (hi : i ≤ m) (f : Nat → α) : swr (m - i) m i f = rot (m - i) m (m + i) f := by
  funext k; unfold rot swr
  by_cases h1 : m - i ≤ k ∧ k < m - i + i
  · rw [if_pos h1, if_pos (by omega), if_pos (by omega)]
  · rw [if_neg h1]
    by_cases h2 : m ≤ k ∧ k < m + i
    · rw [if_pos h2, if_pos (by omega), if_neg (by omega)]
      congr 1; omega
    · rw [if_neg h2, if_neg (by omega)]

/-- g is f with the elements from a on, below b, in another order -/
def PermOn (a b : Nat) (f g : Nat → α) : Prop := ∃ s t : Nat → Nat, (∀ k, s (t k) = k ∧ t (s k) = k) ∧ (∀ k, ¬ (a ≤ k ∧ k < b) → s k = k) ∧ g = fun k => f (s k)
theorem PermOn.refl (a b : Nat) (f : Nat → α) : PermOn a b f f := ⟨id, id, fun _ => ⟨rfl, rfl⟩, fun _ _ => rfl, rfl⟩
theorem PermOn.trans {a b : Nat} {f g h : Nat → α} (h1 : PermOn a b f g) (h2 : PermOn a b g h) : PermOn a b f h := by
  obtain ⟨s, t, p, q, rfl⟩ := h1
  obtain ⟨s', t', p', q', rfl⟩ := h2
  refine ⟨fun k => s (s' k), fun k => t' (t k), fun k => ⟨by show s (s' (t' (t k))) = k; rw [(p' _).1, (p _).1], by show t' (t (s (s' k))) = k; rw [(p _).2, (p' _).2]⟩, fun k hk => by show s (s' k) = k; rw [q' k hk, q k hk], rfl⟩
theorem PermOn.mono {a b a' b' : Nat} {f g : Nat → α} (h : PermOn a b f g) (h1 : a' ≤ a) (h2 : b ≤ b') : PermOn a' b' f g := by
  obtain ⟨s, t, p, q, e⟩ := h
  exact ⟨s, t, p, fun k hk => q k (by omega), e⟩
theorem PermOn.out {a b : Nat} {f g : Nat → α} (h : PermOn a b f g) {k : Nat} (hk : ¬ (a ≤ k ∧ k < b)) : g k = f k := by
  obtain ⟨s, t, p, q, rfl⟩ := h
  show f (s k) = f k
  rw [q k hk]
theorem perm_in {a b : Nat} {s t : Nat → Nat} (p : ∀ k, s (t k) = k ∧ t (s k) = k) (q : ∀ k, ¬ (a ≤ k ∧ k < b) → s k = k) {k : Nat} (hk : a ≤ k ∧ k < b) : a ≤ s k ∧ s k < b := by
  by_cases h : a ≤ s k ∧ s k < b
  · exact h
  · have h1 := q (s k) h
    have h2 := congrArg t h1
    rw [(p _).2, (p _).2] at h2
    rw [h2] at h
    exact absurd hk h
/-- what holds of all holds still -/
theorem PermOn.all {a b : Nat} {f g : Nat → α} (h : PermOn a b f g) {P : α → Prop} (hP : ∀ k, a ≤ k → k < b → P (f k)) : ∀ k, a ≤ k → k < b → P (g k) := by
  obtain ⟨s, t, p, q, rfl⟩ := h
  intro k h1 h2
  have := perm_in p q ⟨h1, h2⟩
  exact hP _ this.1 this.2
theorem PermOn.swf {a b i j : Nat} (hi : a ≤ i ∧ i < b) (hj : a ≤ j ∧ j < b) (f : Nat → α) : PermOn a b f (swf i j f) := by
  refine ⟨fun k => if k = i then j else if k = j then i else k, fun k => if k = i then j else if k = j then i else k, fun k => ?_, fun k hk => ?_, ?_⟩
  · by_cases h1 : k = i
    · subst h1
      by_cases h2 : j = k
      · subst h2; simp
      · simp [h2]
    · by_cases h2 : k = j
      · subst h2; simp [h1]
      · simp [h1, h2]
  · show (if k = i then j else if k = j then i else k) = k
    rw [if_neg (by omega), if_neg (by omega)]
  · funext k
    show Mrg.swf i j f k = f (if k = i then j else if k = j then i else k)
    unfold Mrg.swf
    split
    · rfl
    · split <;> rfl
def rs (a m b k : Nat) : Nat := if a ≤ k ∧ k < b then (if k < a + (b - m) then k - a + m else k - (b - m)) else k
def rt (a m b k : Nat) : Nat := if a ≤ k ∧ k < b then (if k < m then k + (b - m) else k - m + a) else k
theorem rs_rt {a m b : Nat} (h1 : a ≤ m) (h2 : m ≤ b) (k : Nat) : rs a m b (rt a m b k) = k := by
  by_cases h3 : a ≤ k ∧ k < b
  · by_cases h4 : k < m
    · have e : rt a m b k = k + (b - m) := by unfold rt; rw [if_pos h3, if_pos h4]
      rw [e]; unfold rs
      rw [if_pos (by omega), if_neg (by omega)]; omega
    · have e : rt a m b k = k - m + a := by unfold rt; rw [if_pos h3, if_neg h4]
      rw [e]; unfold rs
      rw [if_pos (by omega), if_pos (by omega)]; omega
  · have e : rt a m b k = k := by unfold rt; rw [if_neg h3]
    rw [e]; unfold rs
    rw [if_neg h3]
theorem rt_rs {a m b : Nat} (h1 : a ≤ m) (h2 : m ≤ b) (k : Nat) : rt a m b (rs a m b k) = k := by
  by_cases h3 : a ≤ k ∧ k < b
  · by_cases h4 : k < a + (b - m)
    · have e : rs a m b k = k - a + m := by unfold rs; rw [if_pos h3, if_pos h4]
      rw [e]; unfold rt
      rw [if_pos (by omega), if_neg (by omega)]; omega
    · have e : rs a m b k = k - (b - m) := by unfold rs; rw [if_pos h3, if_neg h4]
      rw [e]; unfold rt
      rw [if_pos (by omega), if_pos (by omega)]; omega
  · have e : rs a m b k = k := by unfold rs; rw [if_neg h3]
    rw [e]; unfold rt
    rw [if_neg h3]
theorem PermOn.rot {a m b : Nat} (h1 : a ≤ m) (h2 : m ≤ b) (f : Nat → α) : PermOn a b f (rot a m b f) := by
  refine ⟨rs a m b, rt a m b, fun k => ⟨rs_rt h1 h2 k, rt_rs h1 h2 k⟩, fun k hk => by unfold rs; rw [if_neg hk], ?_⟩
  funext k
  unfold Mrg.rot rs
  split
  · split <;> rfl
  · rfl
theorem PermOn.perm {n : Nat} {f g : Nat → α} (h : PermOn 0 n f g) : (row n g).Perm (row n f) := by
  obtain ⟨s, t, p, q, rfl⟩ := h
  have hp : ((List.range n).map s).Perm (List.range n) := by
    refine (List.perm_ext_iff_of_nodup ?_ List.nodup_range).2 fun k => ?_
    · have hn : (List.range n).Pairwise (· ≠ ·) := List.nodup_range
      show ((List.range n).map s).Pairwise (· ≠ ·)
      rw [List.pairwise_map]
      exact hn.imp fun {a b} h e => h (by have := congrArg t e; rwa [(p _).2, (p _).2] at this)
    · rw [List.mem_map, List.mem_range]
      constructor
      · rintro ⟨j, hj, rfl⟩
        exact (perm_in p q ⟨Nat.zero_le _, List.mem_range.1 hj⟩).2
      · intro hk
        refine ⟨t k, List.mem_range.2 ?_, (p k).1⟩
        by_cases h : t k < n
        · exact h
        · have := q (t k) (by omega)
          rw [(p k).1] at this
          omega
  unfold row
  have := hp.map f
  rw [List.map_map] at this
  exact this

/-- a strict order -/
structure Ord (lt : α → α → Prop) : Prop where
  irr : ∀ x, ¬ lt x x
  tr : ∀ x y z, lt x y → lt y z → lt x z
variable {lt : α → α → Prop}
/-- rising from a on, below b -/
def Sor (lt : α → α → Prop) (a b : Nat) (f : Nat → α) : Prop := ∀ i j, a ≤ i → i < j → j < b → lt (f i) (f j)
theorem Sor.mono {a b a' b' : Nat} {f : Nat → α} (h : Sor lt a b f) (h1 : a ≤ a') (h2 : b' ≤ b) : Sor lt a' b' f := fun i j hi hij hj => h i j (by omega) hij (by omega)
theorem Sor.congr {a b : Nat} {f g : Nat → α} (h : Sor lt a b f) (he : ∀ k, a ≤ k → k < b → g k = f k) : Sor lt a b g := fun i j hi hij hj => by
  rw [he i hi (by omega), he j (by omega) hj]
  exact h i j hi hij hj
theorem Sor.join {a m b : Nat} {f : Nat → α} (h1 : Sor lt a m f) (h2 : Sor lt m b f) (h : ∀ i j, a ≤ i → i < m → m ≤ j → j < b → lt (f i) (f j)) : Sor lt a b f := fun i j hi hij hj => by
  by_cases h3 : j < m
  · exact h1 i j hi hij h3
  · by_cases h4 : i < m
    · exact h i j hi h4 (by omega) hj
    · exact h2 i j (by omega) hij hj
end
end Go.Bar.Mrg

/-
  Layer 14: the plain theory of a heap in a row (no program in sight; no condition).
-/
namespace Go.Bar.Mrg
open Go.RowKit Go.Bar

section
variable {α : Type}
/-- what an order is asked of -/
structure LsOrd (ls : α → α → Bool) : Prop where
  asymm : ∀ x y, ls x y = true → ls y x = false
  tr : ∀ x y z, ls y x = false → ls z y = false → ls z x = false
def Ch (i j : Nat) : Prop := j = 2 * i + 1 ∨ j = 2 * i + 2
/-- a heap from a on, below n -/
def Hp (ls : α → α → Bool) (a n : Nat) (f : Nat → α) : Prop := ∀ i j, a ≤ i → Ch i j → j < n → ls (f j) (f i) = false
/-- a heap but for i's children -/
structure HpX (ls : α → α → Bool) (a n i : Nat) (f : Nat → α) : Prop where
  rest : ∀ k j, a ≤ k → k ≠ i → Ch k j → j < n → ls (f j) (f k) = false
  over : ∀ p j, a ≤ p → Ch p i → Ch i j → j < n → ls (f j) (f p) = false
/-- a heap but for j and its parent -/
structure UpX (ls : α → α → Bool) (n j : Nat) (f : Nat → α) : Prop where
  rest : ∀ k c, Ch k c → c < n → c ≠ j → ls (f c) (f k) = false
  over : ∀ p c, Ch p j → Ch j c → c < n → ls (f c) (f p) = false
variable {ls : α → α → Bool} {a n i j : Nat} {f : Nat → α}
theorem swf_1 (i j : Nat) (f : Nat → α) : swf i j f i = f j := by unfold swf; rw [if_pos rfl]
theorem swf_2 (i j : Nat) (f : Nat → α) : swf i j f j = f i := by
  unfold swf
  by_cases h : j = i
  · rw [if_pos h, h]
  · rw [if_neg h, if_pos rfl]
theorem swf_3 {k : Nat} (h1 : k ≠ i) (h2 : k ≠ j) (f : Nat → α) : swf i j f k = f k := by unfold swf; rw [if_neg h1, if_neg h2]
theorem HpX.start (h : Hp ls (i + 1) n f) : HpX ls i n i f := ⟨fun k j hk hne hc hj => h k j (by omega) hc hj, fun p j hp hc _ _ => by unfold Ch at hc; omega⟩
theorem HpX.done (h : HpX ls a n i f) (hc : ∀ j, Ch i j → j < n → ls (f j) (f i) = false) : Hp ls a n f := fun k j hk hkj hj => by
  by_cases e : k = i
  · subst e; exact hc j hkj hj
  · exact h.rest k j hk e hkj hj
theorem HpX.step (O : LsOrd ls) (h : HpX ls a n i f) (hai : a ≤ i) (hij : Ch i j) (hj : j < n) (hmin : ∀ c, Ch i c → c < n → ls (f c) (f j) = false) (hlt : ls (f j) (f i) = true) : HpX ls a n j (swf i j f) := by
  have hne : i < j := by unfold Ch at hij; omega
  constructor
  · intro k c hk hkj hkc hc
    by_cases e : k = i
    · subst e
      rw [swf_1]
      by_cases e2 : c = j
      · rw [e2, swf_2]; exact O.asymm _ _ hlt
      · rw [swf_3 (by unfold Ch at hkc; omega) e2]; exact hmin c hkc hc
    · rw [swf_3 e hkj]
      by_cases e2 : c = i
      · rw [e2, swf_1]
        rw [e2] at hkc
        exact h.over k j hk hkc hij hj
      · rw [swf_3 e2 (by unfold Ch at *; omega)]
        exact h.rest k c hk e hkc hc
  · intro p c hp hpj hjc hc
    obtain rfl : p = i := by unfold Ch at *; omega
    rw [swf_1, swf_3 (by unfold Ch at *; omega) (by unfold Ch at *; omega)]
    exact h.rest j c (by omega) (by omega) hjc hc
theorem UpX.start (h : Hp ls 0 j f) : UpX ls (j + 1) j f := ⟨fun k c hk hc hne => h k c (Nat.zero_le _) hk (by omega), fun p c hp hc hcn => by unfold Ch at *; omega⟩
theorem UpX.done (h : UpX ls n j f) (hd : ∀ p, Ch p j → j < n → ls (f j) (f p) = false) : Hp ls 0 n f := fun k c _ hkc hc => by
  by_cases e : c = j
  · subst e; exact hd k hkc hc
  · exact h.rest k c hkc hc e
theorem UpX.step (O : LsOrd ls) (h : UpX ls n j f) (hij : Ch i j) (hj : j < n) (hlt : ls (f j) (f i) = true) : UpX ls n i (swf i j f) := by
  have hne : i < j := by unfold Ch at hij; omega
  have hi : ∀ c, Ch i c → c < n → c ≠ j → ls (f c) (f j) = false := fun c hc hcn hcj => O.tr _ _ _ (O.asymm _ _ hlt) (h.rest i c hc hcn hcj)
  constructor
  · intro k c hkc hc hci
    by_cases e : c = j
    · subst e
      obtain rfl : k = i := by unfold Ch at *; omega
      rw [swf_1, swf_2]; exact O.asymm _ _ hlt
    · by_cases e2 : k = i
      · subst e2
        rw [swf_1, swf_3 hci e]; exact hi c hkc hc e
      · by_cases e3 : k = j
        · subst e3
          rw [swf_2, swf_3 hci e]; exact h.over i c hij hkc hc
        · rw [swf_3 hci e, swf_3 e2 e3]; exact h.rest k c hkc hc e
  · intro p c hpi hic hc
    have hpi' : p ≠ i ∧ p ≠ j := by unfold Ch at *; omega
    rw [swf_3 hpi'.1 hpi'.2]
    have h1 := h.rest p i hpi (by omega) (by omega)
    by_cases e : c = j
    · rw [e, swf_2]; exact h1
    · rw [swf_3 (by unfold Ch at *; omega) e]
      exact O.tr _ _ _ h1 (h.rest i c hic hc e)
/-- the first one is the least -/
theorem Hp.least (O : LsOrd ls) (hr : ∀ x, ls x x = false) (h : Hp ls 0 n f) : ∀ (m k : Nat), k ≤ m → k < n → ls (f k) (f 0) = false
  | 0, k, hk, _ => by rw [show k = 0 by omega]; exact hr _
  | m + 1, k, hk, hkn => by
    rcases Nat.eq_zero_or_pos k with h0 | h0
    · rw [h0]; exact hr _
    · have hp : Ch ((k - 1) / 2) k := by unfold Ch; omega
      exact O.tr _ _ _ (Hp.least O hr h m ((k - 1) / 2) (by omega) (by omega)) (h _ k (Nat.zero_le _) hp hkn)
theorem Hp.mono {a' n' : Nat} (h : Hp ls a n f) (h1 : a ≤ a') (h2 : n' ≤ n) : Hp ls a' n' f := fun i j hi hc hj => h i j (by omega) hc (by omega)
theorem Hp.congr {g : Nat → α} (h : Hp ls a n f) (he : ∀ k, a ≤ k → k < n → g k = f k) : Hp ls a n g := fun i j hi hc hj => by
  rw [he j (by unfold Ch at hc; omega) hj, he i hi (by unfold Ch at hc; omega)]; exact h i j hi hc hj
end
end Go.Bar.Mrg
