/-
  Plain mathematics of layer 8 (names of blocks): no program in sight; no condition.
-/
import Derived.Test.YtemmgejaoegpfaaZLebM
import Derived.Lib.Bytealg

namespace Go.Bar.Idt
open Go.RowKit Go.Bar

def signs : List UInt8 := [48, 49, 50, 51, 52, 53, 54, 55, 56, 57, 97, 98, 99, 100, 101, 102, 103, 104, 106, 107, 109, 110, 112, 113, 114, 115, 116, 118, 119, 120, 121, 122]
theorem signs_length : signs.length = 32 := rfl
def sgn (k : Nat) : UInt8 := signs.getD k 0
/-- which digit a byte is; -1: none -/
def ix (c : UInt8) : Int := Lib.indexByte signs c
theorem ix_sgn (k : Nat) (h : k < 32) : ix (sgn k) = k := by
  have : ∀ k : Fin 32, ix (sgn k.val) = (k.val : Int) := by decide +kernel
  exact this ⟨k, h⟩
theorem index_of : ∀ (l : List UInt8) (c : UInt8), Lib.indexByte l c = -1 ∧ c ∉ l ∨ ∃ k : Nat, Lib.indexByte l c = k ∧ l[k]? = some c
  | [], c => .inl ⟨rfl, by simp⟩
  | b :: l, c => by
    unfold Lib.indexByte
    by_cases h : b = c
    · subst h
      rw [if_pos (by simp)]
      exact .inr ⟨0, rfl, rfl⟩
    · rw [if_neg (by simpa using h)]
      rcases index_of l c with ⟨h1, h2⟩ | ⟨k, h1, h2⟩
      · rw [h1]
        exact .inl ⟨rfl, by simp [h2]; exact fun e => h e.symm⟩
      · rw [h1, if_neg (by simp)]
        exact .inr ⟨k + 1, by omega, by simpa using h2⟩
theorem ix_of (c : UInt8) : ix c = -1 ∧ c ∉ signs ∨ ∃ k : Nat, ix c = k ∧ k < 32 ∧ sgn k = c := by
  rcases index_of signs c with h | ⟨k, h1, h2⟩
  · exact .inl h
  · obtain ⟨h3, h4⟩ := List.getElem?_eq_some_iff.1 h2
    refine .inr ⟨k, h1, h3, ?_⟩
    unfold sgn
    rw [List.getD_eq_getElem?_getD, h2]
    rfl
theorem sgn_mem (k : Nat) (h : k < 32) : sgn k ∈ signs := by
  have : ∀ k : Fin 32, sgn k.val ∈ signs := by decide +kernel
  exact this ⟨k, h⟩
theorem sgn_lt {j k : Nat} (h : j < k) (hk : k < 32) : sgn j < sgn k := by
  have : ∀ k j : Fin 32, j.val < k.val → sgn j.val < sgn k.val := by decide +kernel
  exact this ⟨k, hk⟩ ⟨j, by omega⟩ h
theorem sgn_slash (k : Nat) (h : k < 32) : sgn k ≠ 47 := by
  have : ∀ k : Fin 32, sgn k.val ≠ 47 := by decide +kernel
  exact this ⟨k, h⟩

/-- the lowest m digits of a number, the highest first -/
def dg : Nat → Nat → List UInt8
  | 0, _ => []
  | m + 1, n => dg m (n / 32) ++ [sgn (n % 32)]
theorem dg_length : ∀ m n, (dg m n).length = m
  | 0, _ => rfl
  | m + 1, n => by rw [dg, List.length_append, dg_length m]; rfl
theorem dg_cons : ∀ (m n : Nat), dg (m + 1) n = sgn (n / 32 ^ m % 32) :: dg m n
  | 0, n => by simp [dg]
  | m + 1, n => by
    rw [dg, dg_cons m (n / 32), dg, Nat.div_div_eq_div_mul, Nat.pow_succ, Nat.mul_comm (32 ^ m) 32]
    rfl
/-- the digits from place p on -/
theorem dg_drop : ∀ (m p n : Nat), (dg (p + m) n).drop p = dg m n
  | m, 0, n => by simp
  | m, p + 1, n => by
    rw [show p + 1 + m = (p + m) + 1 by omega, dg_cons, List.drop_succ_cons, dg_drop m p n]
theorem dg_mem : ∀ (m n : Nat) (c : UInt8), c ∈ dg m n → ∃ k, k < 32 ∧ c = sgn k
  | 0, _, _, h => by simp [dg] at h
  | m + 1, n, c, h => by
    rw [dg, List.mem_append] at h
    rcases h with h | h
    · exact dg_mem m _ c h
    · simp at h; exact ⟨_, Nat.mod_lt _ (by omega), h⟩

theorem dg_more : ∀ (m k n : Nat), dg m (k * 32 ^ m + n) = dg m n
  | 0, _, _ => rfl
  | m + 1, k, n => by
    rw [dg, dg]
    have e1 : (k * 32 ^ (m + 1) + n) / 32 = k * 32 ^ m + n / 32 := by
      rw [Nat.pow_succ, ← Nat.mul_assoc]; omega
    have e2 : (k * 32 ^ (m + 1) + n) % 32 = n % 32 := by
      rw [Nat.pow_succ, ← Nat.mul_assoc]; omega
    rw [e1, e2, dg_more m]

/-- the number of digits; none: they are none -/
def num : Nat → List UInt8 → Option Nat
  | acc, [] => some acc
  | acc, c :: r => if ix c < 0 then none else num (32 * acc + (ix c).toNat) r
theorem num_append : ∀ (l r : List UInt8) (acc v : Nat), num acc l = some v → num acc (l ++ r) = num v r
  | [], r, acc, v, h => by simp [num] at h; subst h; rfl
  | c :: l, r, acc, v, h => by
    rw [num] at h
    by_cases hc : ix c < 0
    · rw [if_pos hc] at h; cases h
    · rw [if_neg hc] at h
      rw [List.cons_append, num, if_neg hc]
      exact num_append l r _ v h
theorem num_none : ∀ (l r : List UInt8) (acc : Nat), num acc l = none → num acc (l ++ r) = none
  | [], r, acc, h => by simp [num] at h
  | c :: l, r, acc, h => by
    rw [num] at h
    rw [List.cons_append, num]
    by_cases hc : ix c < 0
    · rw [if_pos hc]
    · rw [if_neg hc] at h ⊢
      exact num_none l r _ h
theorem num_dg : ∀ (m n acc : Nat), n < 32 ^ m → num acc (dg m n) = some (acc * 32 ^ m + n)
  | 0, n, acc, h => by simp at h; subst h; simp [dg, num]
  | m + 1, n, acc, h => by
    have h1 := num_dg m (n / 32) acc (by rw [Nat.pow_succ] at h; omega)
    rw [dg, num_append _ _ _ _ h1, num, ix_sgn _ (Nat.mod_lt _ (by omega)), if_neg (by omega), num]
    congr 1
    rw [Nat.pow_succ, ← Nat.mul_assoc, Int.toNat_natCast]
    omega
theorem num_one : ∀ (l : List UInt8) (acc v : Nat), num acc l = some v → ∃ n, n < 32 ^ l.length ∧ v = acc * 32 ^ l.length + n ∧ l = dg l.length n
  | [], acc, v, h => by simp [num] at h; exact ⟨0, by simp, by simp [h], rfl⟩
  | c :: l, acc, v, h => by
    rw [num] at h
    by_cases hc : ix c < 0
    · rw [if_pos hc] at h; cases h
    · rw [if_neg hc] at h
      obtain ⟨n, h1, h2, h3⟩ := num_one l _ v h
      rcases ix_of c with ⟨g, _⟩ | ⟨k, g1, g2, g3⟩
      · omega
      · rw [g1, Int.toNat_natCast] at h2
        have hp : 0 < 32 ^ l.length := Nat.pow_pos (by omega)
        refine ⟨k * 32 ^ l.length + n, ?_, ?_, ?_⟩
        · rw [List.length_cons, Nat.pow_succ]
          have := Nat.mul_le_mul_right (32 ^ l.length) (show k + 1 ≤ 32 by omega)
          rw [Nat.add_mul] at this
          omega
        · rw [h2, List.length_cons, Nat.pow_succ, Nat.add_mul]
          have : 32 * acc * 32 ^ l.length = acc * (32 ^ l.length * 32) := by
            rw [Nat.mul_comm 32 acc, Nat.mul_assoc, Nat.mul_comm 32]
          omega
        · rw [List.length_cons, dg_cons]
          have e1 : (k * 32 ^ l.length + n) / 32 ^ l.length = k := by
            rw [Nat.mul_comm, Nat.mul_add_div hp, Nat.div_eq_of_lt h1, Nat.add_zero]
          rw [e1, Nat.mod_eq_of_lt g2, g3]
          congr 1
          rw [dg_more, ← h3]
theorem num_lt (l : List UInt8) (v : Nat) (h : num 0 l = some v) : v < 32 ^ l.length := by
  obtain ⟨n, h1, h2, _⟩ := num_one l 0 v h
  omega
theorem num_inj (l : List UInt8) (v : Nat) (h : num 0 l = some v) : l = dg l.length v := by
  obtain ⟨n, h1, h2, h3⟩ := num_one l 0 v h
  rw [show v = n by omega]
  exact h3
theorem num_slash (l : List UInt8) (v : Nat) (h : num 0 l = some v) : (47 : UInt8) ∉ l := by
  rw [num_inj l v h]
  intro hm
  obtain ⟨k, hk, he⟩ := dg_mem _ _ _ hm
  exact sgn_slash k hk he.symm

/-- names -/
def mk (t s : Nat) : List UInt8 := dg 8 t ++ dg 8 s
theorem mk_length (t s : Nat) : (mk t s).length = 16 := by rw [mk, List.length_append, dg_length, dg_length]
def parse (l : List UInt8) : Option (Nat × Nat) :=
  if l.length ≠ 16 then none else match num 0 (l.take 8), num 0 (l.drop 8) with
    | some a, some b => some (a, b)
    | _, _ => none
theorem parse_mk (t s : Nat) (ht : t < 32 ^ 8) (hs : s < 32 ^ 8) : parse (mk t s) = some (t, s) := by
  unfold parse
  rw [if_neg (by rw [mk_length]; simp)]
  have h1 : (mk t s).take 8 = dg 8 t := by rw [mk, List.take_append_of_le_length (by rw [dg_length]; omega), List.take_of_length_le (by rw [dg_length]; omega)]
  have h2 : (mk t s).drop 8 = dg 8 s := by rw [mk, List.drop_append_of_le_length (by rw [dg_length]; omega), List.drop_of_length_le (by rw [dg_length]; omega), List.nil_append]
  rw [h1, h2, num_dg 8 t 0 ht, num_dg 8 s 0 hs]
  simp
theorem parse_one (l : List UInt8) (t s : Nat) (h : parse l = some (t, s)) : l = mk t s ∧ t < 32 ^ 8 ∧ s < 32 ^ 8 := by
  unfold parse at h
  by_cases hl : l.length ≠ 16
  · rw [if_pos hl] at h; cases h
  · rw [if_neg hl] at h
    have hl : l.length = 16 := by omega
    have e1 : (l.take 8).length = 8 := by rw [List.length_take]; omega
    have e2 : (l.drop 8).length = 8 := by rw [List.length_drop]; omega
    rcases h1 : num 0 (l.take 8) with _ | a
    · rw [h1] at h; cases h
    · rcases h2 : num 0 (l.drop 8) with _ | b
      · rw [h1, h2] at h; cases h
      · rw [h1, h2] at h
        simp at h
        obtain ⟨rfl, rfl⟩ := h
        have g1 := num_inj _ _ h1
        have g2 := num_inj _ _ h2
        have g3 := num_lt _ _ h1
        have g4 := num_lt _ _ h2
        rw [e1] at g1 g3
        rw [e2] at g2 g4
        exact ⟨by rw [mk, ← g1, ← g2, List.take_append_drop], g3, g4⟩
theorem parse_slash (l : List UInt8) (h : (parse l).isSome = true) : (47 : UInt8) ∉ l ∧ l.length = 16 := by
  obtain ⟨⟨t, s⟩, hp⟩ := Option.isSome_iff_exists.1 h
  obtain ⟨rfl, _, _⟩ := parse_one l t s hp
  refine ⟨fun hm => ?_, mk_length t s⟩
  rw [mk, List.mem_append] at hm
  rcases hm with hm | hm <;> (obtain ⟨k, hk, he⟩ := dg_mem _ _ _ hm; exact sgn_slash k hk he.symm)

/-- digits rise as numbers do -/
theorem less_dg : ∀ (m a b : Nat) (x y : List UInt8), a < 32 ^ m → b < 32 ^ m → Op.bytesLess (dg m a ++ x) (dg m b ++ y) = (decide (a < b) || (a == b && Op.bytesLess x y))
  | 0, a, b, x, y, ha, hb => by
    have : a = 0 := by simpa using ha
    have : b = 0 := by simpa using hb
    subst a; subst b
    simp [dg]
  | m + 1, a, b, x, y, ha, hb => by
    rw [dg_cons, dg_cons, List.cons_append, List.cons_append, Op.bytesLess]
    have hp : 0 < 32 ^ m := Nat.pow_pos (by omega)
    rw [Nat.pow_succ] at ha hb
    have ha1 : a / 32 ^ m < 32 := Nat.div_lt_of_lt_mul (by omega)
    have hb1 : b / 32 ^ m < 32 := Nat.div_lt_of_lt_mul (by omega)
    rw [Nat.mod_eq_of_lt ha1, Nat.mod_eq_of_lt hb1]
    have ea := Nat.div_add_mod a (32 ^ m)
    have eb := Nat.div_add_mod b (32 ^ m)
    have ma := Nat.mod_lt a hp
    have mb := Nat.mod_lt b hp
    rcases Nat.lt_trichotomy (a / 32 ^ m) (b / 32 ^ m) with h | h | h
    · have h1 := sgn_lt h hb1
      have h2 : a < b := by
        have := Nat.mul_le_mul_left (32 ^ m) (show a / 32 ^ m + 1 ≤ b / 32 ^ m by omega)
        rw [Nat.mul_add, Nat.mul_one] at this
        omega
      simp [h1, h2]
    · rw [h]
      have h1 : ¬ sgn (b / 32 ^ m) < sgn (b / 32 ^ m) := by simp
      have e1 : dg m a = dg m (a % 32 ^ m) := by
        conv => lhs; rw [← ea, Nat.mul_comm, dg_more]
      have e2 : dg m b = dg m (b % 32 ^ m) := by
        conv => lhs; rw [← eb, Nat.mul_comm, dg_more]
      rw [e1, e2, less_dg m _ _ x y ma mb]
      have i1 : (a < b) = (a % 32 ^ m < b % 32 ^ m) := by
        rw [h] at ea
        apply propext
        omega
      have i2 : (a == b) = (a % 32 ^ m == b % 32 ^ m) := by
        rw [h] at ea
        rw [Bool.eq_iff_iff, beq_iff_eq, beq_iff_eq]
        omega
      simp only [i1, i2, h1, decide_false, Bool.false_or, BEq.rfl, Bool.true_and]
    · have h1 := sgn_lt h ha1
      have h2 : b < a := by
        have := Nat.mul_le_mul_left (32 ^ m) (show b / 32 ^ m + 1 ≤ a / 32 ^ m by omega)
        rw [Nat.mul_add, Nat.mul_one] at this
        omega
      have h3 : ¬ sgn (a / 32 ^ m) < sgn (b / 32 ^ m) := by
        intro hh
        exact absurd (UInt8.lt_trans h1 hh) (by simp)
      have h4 : (sgn (a / 32 ^ m) == sgn (b / 32 ^ m)) = false := by
        rw [beq_eq_false_iff_ne]
        intro he
        rw [he] at h1
        exact absurd h1 (by simp)
      have h5 : ¬ a < b := by omega
      have h6 : (a == b) = false := by rw [beq_eq_false_iff_ne]; omega
      simp [h3, h4, h5, h6]
theorem less_mk (a b c d : Nat) (ha : a < 32 ^ 8) (hb : b < 32 ^ 8) (hc : c < 32 ^ 8) (hd : d < 32 ^ 8) : Op.bytesLess (mk a b) (mk c d) = (decide (a < c) || (a == c && decide (b < d))) := by
  unfold mk
  have h1 := less_dg 8 b d [] [] hb hd
  rw [List.append_nil, List.append_nil] at h1
  rw [less_dg 8 a c _ _ ha hc, h1]
  simp [Op.bytesLess]
theorem mk_inj (a b c d : Nat) (ha : a < 32 ^ 8) (hb : b < 32 ^ 8) (hc : c < 32 ^ 8) (hd : d < 32 ^ 8) : (mk a b == mk c d) = (a == c && b == d) := by
  rw [Bool.eq_iff_iff, beq_iff_eq, Bool.and_eq_true, beq_iff_eq, beq_iff_eq]
  constructor
  · intro h
    have := congrArg parse h
    rw [parse_mk a b ha hb, parse_mk c d hc hd] at this
    simpa using this
  · rintro ⟨rfl, rfl⟩; rfl

/-- parts of a block -/
def parts : List (List UInt8) := [[99, 104, 117, 110, 107, 115], [105, 110, 100, 101, 120], [109, 101, 116, 97], [109, 97, 114, 107]]
/-- the block and the part of an object's name -/
def split (l : List UInt8) : Option (List UInt8 × List UInt8) :=
  if 17 ≤ l.length ∧ l[16]? = some 47 ∧ (parse (l.take 16)).isSome = true ∧ l.drop 17 ∈ parts then some (l.take 16, l.drop 17) else none

end Go.Bar.Idt
