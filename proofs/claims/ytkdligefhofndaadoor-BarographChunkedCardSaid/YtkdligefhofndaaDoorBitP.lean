/-
  Layer 3: plain laws of bits that are written and taken again. No program in sight.
-/
import Derived.Test.YtkdligefhofndaaDoorBitM
namespace Go.Bar.Bit
open Go.RowKit Go.Bar

theorem getD_drop (L : List Bool) (p k : Nat) : (L.drop p).getD k false = L.getD (p + k) false := by
  rw [List.getD_eq_getElem?_getD, List.getD_eq_getElem?_getD, List.getElem?_drop]
theorem unpack_pack_get (l : List Bool) (i : Nat) (h : i < 8 * ((l.length + 7) / 8)) : (unpack (pack l))[i]? = some (l.getD i false) := by
  rw [unpack_get _ _ (by rw [pack_length]; exact h)]
  have hq : i / 8 < (l.length + 7) / 8 := by omega
  have hb : (pack l).getD (i / 8) 0 = byteAt l (i / 8) := by rw [List.getD_eq_getElem?_getD, pack_get l _ hq]; rfl
  rw [hb]
  unfold byteAt
  obtain ⟨h0, h1, h2, h3, h4, h5, h6, h7⟩ := byte8_bits (l.getD (8 * (i / 8)) false) (l.getD (8 * (i / 8) + 1) false) (l.getD (8 * (i / 8) + 2) false) (l.getD (8 * (i / 8) + 3) false) (l.getD (8 * (i / 8) + 4) false) (l.getD (8 * (i / 8) + 5) false) (l.getD (8 * (i / 8) + 6) false) (l.getD (8 * (i / 8) + 7) false)
  have hi := Nat.div_add_mod i 8
  rcases (show i % 8 = 0 ∨ i % 8 = 1 ∨ i % 8 = 2 ∨ i % 8 = 3 ∨ i % 8 = 4 ∨ i % 8 = 5 ∨ i % 8 = 6 ∨ i % 8 = 7 by omega) with h | h | h | h | h | h | h | h <;> rw [h] at hi ⊢
  · rw [h0]; rw [show i = 8 * (i / 8) by omega]; simp
  · rw [h1]; congr 2
  · rw [h2]; congr 2
  · rw [h3]; congr 2
  · rw [h4]; congr 2
  · rw [h5]; congr 2
  · rw [h6]; congr 2
  · rw [h7]; congr 2
theorem unpack_pack_length (l : List Bool) : (unpack (pack l)).length = 8 * ((l.length + 7) / 8) := by rw [unpack_length, pack_length]
theorem unpack_pack_take (l : List Bool) : (unpack (pack l)).take l.length = l := by
  apply List.ext_getElem?
  intro i
  rw [List.getElem?_take]
  split
  · next h =>
    rw [unpack_pack_get l i (by omega), List.getD_eq_getElem?_getD, List.getElem?_eq_getElem h]
    rfl
  · next h => rw [List.getElem?_eq_none (by omega)]
theorem num_zeros : ∀ (n : Nat) (l : List Bool), l.length = n → (∀ x ∈ l, x = false) → num l = 0
  | 0, l, h, _ => by rw [List.eq_nil_of_length_eq_zero h]; rfl
  | n + 1, l, h, hz => by
    have hne : l ≠ [] := by intro e; subst e; simp at h
    rw [← List.dropLast_concat_getLast hne, num_snoc, hz _ (List.getLast_mem hne), num_zeros n l.dropLast (by rw [List.length_dropLast]; omega) (fun x hx => hz x (List.dropLast_subset l hx))]
    rfl
theorem zeros_num (l : List Bool) (n : Nat) : num (((unpack (pack l)).drop l.length).take n) = 0 := by
  refine num_zeros _ _ rfl fun x hx => ?_
  have hx := List.mem_of_mem_take hx
  obtain ⟨i, hi⟩ := List.mem_iff_getElem?.1 hx
  rw [List.getElem?_drop] at hi
  have hlt : l.length + i < 8 * ((l.length + 7) / 8) := by rw [← unpack_pack_length]; exact (List.getElem?_eq_some_iff.1 hi).1
  rw [unpack_pack_get l _ hlt, List.getD_eq_getElem?_getD, List.getElem?_eq_none (by omega)] at hi
  simp at hi
  exact hi
theorem bitsOf_snoc (v : Nat) : ∀ n, bitsOf v (n + 1) = bitsOf (v / 2) n ++ [v % 2 == 1]
  | 0 => by simp [bitsOf]
  | n + 1 => by
    rw [bitsOf, bitsOf_snoc v n, bitsOf, List.cons_append]
    congr 1
    rw [Nat.div_div_eq_div_mul, Nat.pow_succ, Nat.mul_comm]
theorem num_bitsOf : ∀ (n v : Nat), num (bitsOf v n) = v % 2 ^ n
  | 0, v => by simp [bitsOf, num, Nat.mod_one]
  | n + 1, v => by
    rw [bitsOf_snoc, num_snoc, num_bitsOf n (v / 2), Nat.pow_succ, Nat.mul_comm (2 ^ n) 2, Nat.mod_mul]
    rcases Nat.mod_two_eq_zero_or_one v with h | h <;> rw [h] <;> simp <;> omega
theorem run_ones (L : List Bool) : ∀ (c p m : Nat) (rest : List Bool), L.drop p = List.replicate c true ++ rest → c ≤ m → (c < m → rest.getD 0 false = false) → run L p m = c
  | 0, p, 0, rest, _, _, _ => rfl
  | 0, p, m + 1, rest, h, _, h0 => by
    rw [run_false]
    have := getD_drop L p 0
    rw [Nat.add_zero] at this
    rw [← this, h]
    exact h0 (by omega)
  | c + 1, p, 0, rest, _, hc, _ => by omega
  | c + 1, p, m + 1, rest, h, hc, h0 => by
    have h1 := getD_drop L p 0
    rw [Nat.add_zero, h] at h1
    have h2 : L.drop (p + 1) = List.replicate c true ++ rest := by
      rw [← List.drop_drop, h, List.replicate_succ, List.cons_append, List.drop_succ_cons, List.drop_zero]
    rw [run_true L p m (by rw [← h1, List.replicate_succ, List.cons_append]; rfl), run_ones L c (p + 1) m rest h2 (by omega) (fun hh => h0 (by omega))]

/-- A BIT IS TAKEN AGAIN -/
theorem eyeBit_of {L rest : List Bool} {p : Nat} {x : Bool} (h : L.drop p = [x] ++ rest) : eyeBit L p 0 = (x, p + 1, 0) := by
  have h1 := getD_drop L p 0
  rw [Nat.add_zero, h] at h1
  have hl := congrArg List.length h
  rw [List.length_drop, List.length_append] at hl
  simp only [List.length_cons, List.length_nil] at hl
  unfold eyeBit
  rw [if_neg (by omega), if_pos (by omega), ← h1]
  rfl
/-- BITS ARE TAKEN AGAIN -/
theorem eyeBits_of {L rest : List Bool} {p v : Nat} {n : Int} (h : L.drop p = bitsOf v (clip n) ++ rest) : eyeBits L p 0 n = (v % 2 ^ clip n, p + clip n, 0) := by
  have hl := congrArg List.length h
  rw [List.length_drop, List.length_append, bitsOf_length] at hl
  unfold eyeBits
  rw [if_neg (by omega), if_neg (by omega), h]
  rw [List.take_append_of_le_length (by rw [bitsOf_length]; exact Nat.le_refl _), List.take_of_length_le (by rw [bitsOf_length]; exact Nat.le_refl _), num_bitsOf]
/-- ONES ARE TAKEN AGAIN -/
theorem eyeUnary_of {L rest : List Bool} {p : Nat} {n m : Int} (h : L.drop p = unary n m ++ rest) : eyeUnary L p 0 m = (ones n m, p + (unary n m).length, 0) := by
  obtain ⟨c, hc⟩ : ∃ c, c = ones n m := ⟨_, rfl⟩
  have hc1 : (c : Int) = min (max n 0) (max m 0) := by rw [hc]; unfold ones; omega
  have hl := congrArg List.length h
  rw [List.length_drop, List.length_append] at hl
  unfold unary at h hl ⊢
  rw [← hc] at h hl ⊢
  unfold eyeUnary
  rw [if_neg (by omega)]
  by_cases hlt : (c : Int) < m
  · rw [if_pos hlt] at h hl ⊢
    rw [List.append_assoc] at h
    have hr := run_ones L c p m.toNat ([false] ++ rest) h (by omega) (fun _ => rfl)
    rw [List.length_append, List.length_replicate] at hl ⊢
    simp only [List.length_cons, List.length_nil] at hl ⊢
    rw [hr, if_neg (by omega), if_pos (by omega)]
    simp only [Nat.add_assoc]
  · rw [if_neg hlt, List.append_nil] at h hl ⊢
    have hr := run_ones L c p m.toNat rest h (by omega) (fun hh => by omega)
    have hm : m.toNat = c := by omega
    rw [hr, if_pos hm.symm, hm, List.length_replicate]

/-! masks -/
theorem mask_nat (u a : Nat) (hu : u < 18446744073709551616) (ha : a ≤ 64) : bits .and .u64 (u : Int) ((2 ^ a - 1 : Nat) : Int) = ((u % 2 ^ a : Nat) : Int) := by
  have h2 : 2 ^ a ≤ 2 ^ 64 := Nat.pow_le_pow_right (by omega) ha
  rw [u64_and_nat u (2 ^ a - 1) hu (by omega), Nat.and_two_pow_sub_one_eq_mod]
theorem mask_0 (u : Nat) (n : Int) (hn : n < 0) (hu : u < 18446744073709551616) : ((u : Int) % 2 ^ clip n != bits .and .u64 (u : Int) 0) = false := by
  rw [bne_eq_false_iff_eq, show clip n = 0 by unfold clip; omega]
  have := mask_nat u 0 hu (by omega)
  rw [show (((2 ^ 0 - 1 : Nat)) : Int) = 0 by decide] at this
  rw [this]
  simp
theorem mask_64 (u : Nat) (n : Int) (hn : 64 ≤ n) (hu : u < 18446744073709551616) : ((u : Int) % 2 ^ clip n != bits .and .u64 (u : Int) 18446744073709551615) = false := by
  rw [bne_eq_false_iff_eq, show clip n = 64 by unfold clip; omega]
  have := mask_nat u 64 hu (by omega)
  rw [show (((2 ^ 64 - 1 : Nat)) : Int) = 18446744073709551615 by decide] at this
  rw [this]
  omega
theorem mask_a (u a : Nat) (ha : a < 64) (hu : u < 18446744073709551616) : ((u : Int) % 2 ^ clip (a : Int) != bits .and .u64 (u : Int) (IntKind.u64.wrap (IntKind.u64.wrap (2 ^ a) - 1))) = false := by
  rw [bne_eq_false_iff_eq, show clip (a : Int) = a by unfold clip; omega]
  have h := mask_nat u a hu (by omega)
  have h2 : 2 ^ a < 2 ^ 64 := Nat.pow_lt_pow_right (by omega) (by omega)
  have h3 : 0 < 2 ^ a := Nat.two_pow_pos a
  have e : (2 : Int) ^ a = ((2 ^ a : Nat) : Int) := by push_cast; rfl
  rw [e]
  generalize hx : 2 ^ a = x at *
  have w1 : IntKind.u64.wrap (x : Int) = (x : Int) := by rw [IntKind.wrap_u64]; omega
  rw [w1]
  have w2 : IntKind.u64.wrap ((x : Int) - 1) = ((x - 1 : Nat) : Int) := by rw [IntKind.wrap_u64]; omega
  rw [w2, h]
  push_cast
  rfl

theorem run_all (L : List Bool) : ∀ (m p k : Nat), k < run L p m → L[p + k]? = some true
  | 0, p, k, h => by simp [run] at h
  | m + 1, p, k, h => by
    rcases hb : L.getD p false with _ | _
    · rw [run_false L p m hb] at h; omega
    · rw [run_true L p m hb] at h
      rcases k with _ | k
      · rw [Nat.add_zero]
        rw [List.getD_eq_getElem?_getD] at hb
        rcases hx : L[p]? with _ | x
        · rw [hx] at hb; simp at hb
        · rw [hx] at hb; simp at hb; rw [hb]
      · have := run_all L m (p + 1) k (by omega)
        rw [show p + (k + 1) = p + 1 + k by omega]
        exact this
theorem run_stop (L : List Bool) : ∀ (m p : Nat), run L p m < m → L.getD (p + run L p m) false = false
  | 0, p, h => by omega
  | m + 1, p, h => by
    rcases hb : L.getD p false with _ | _
    · rw [run_false L p m hb, Nat.add_zero]; exact hb
    · rw [run_true L p m hb] at h ⊢
      have := run_stop L m (p + 1) (by omega)
      rw [show p + (run L (p + 1) m + 1) = p + 1 + run L (p + 1) m by omega]
      exact this

theorem mask_all (u a : Nat) (ha : a ≤ 64) (hu : u < 18446744073709551616) : ((u : Int) % 2 ^ a != bits .and .u64 (u : Int) (IntKind.u64.wrap (IntKind.u64.wrap (2 ^ a) - 1))) = false := by
  rcases Nat.lt_or_ge a 64 with h | h
  · have := mask_a u a h hu
    rw [show clip (a : Int) = a by unfold clip; omega] at this
    exact this
  · obtain rfl : a = 64 := by omega
    have := mask_64 u 64 (by omega) hu
    rw [show clip (64 : Int) = 64 by decide] at this
    have e : IntKind.u64.wrap (IntKind.u64.wrap (2 ^ 64) - 1) = 18446744073709551615 := by rw [IntKind.wrap_u64, IntKind.wrap_u64]; decide
    rw [e]
    exact this

end Go.Bar.Bit
