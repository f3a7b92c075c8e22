/-
  Plain mathematics of layer 3 (rows of bits): no program in sight; no condition.
-/
import Derived.Test.YtgabmfibfikdbaaGreatDoorZLib1
import Derived.Test.YtgabmfibfikdbaaGreatDoorZMrgS

namespace Go.Bar.Bit
open Go.RowKit Go.Bar

def byte8 (a b c d e f g h : Bool) : UInt8 :=
  (if a then 128 else 0) + (if b then 64 else 0) + (if c then 32 else 0) + (if d then 16 else 0) + (if e then 8 else 0) + (if f then 4 else 0) + (if g then 2 else 0) + (if h then 1 else 0)
def byteAt (l : List Bool) (i : Nat) : UInt8 :=
  byte8 (l.getD (8 * i) false) (l.getD (8 * i + 1) false) (l.getD (8 * i + 2) false) (l.getD (8 * i + 3) false) (l.getD (8 * i + 4) false) (l.getD (8 * i + 5) false) (l.getD (8 * i + 6) false) (l.getD (8 * i + 7) false)
def pack (l : List Bool) : List UInt8 := (List.range ((l.length + 7) / 8)).map (byteAt l)
theorem pack_length (l : List Bool) : (pack l).length = (l.length + 7) / 8 := by simp [pack]
theorem pack_get (l : List Bool) (i : Nat) (h : i < (l.length + 7) / 8) : (pack l)[i]? = some (byteAt l i) := by simp [pack, h]

def bitOf (x : UInt8) (k : Nat) : Bool := x.toNat / 2 ^ (7 - k) % 2 == 1

theorem byte8_bits : ∀ a b c d e f g h : Bool, bitOf (byte8 a b c d e f g h) 0 = a ∧ bitOf (byte8 a b c d e f g h) 1 = b ∧ bitOf (byte8 a b c d e f g h) 2 = c ∧ bitOf (byte8 a b c d e f g h) 3 = d ∧
    bitOf (byte8 a b c d e f g h) 4 = e ∧ bitOf (byte8 a b c d e f g h) 5 = f ∧ bitOf (byte8 a b c d e f g h) 6 = g ∧ bitOf (byte8 a b c d e f g h) 7 = h := by decide

theorem byte8_or : ∀ a b c d e f g h : Bool,
    (byte8 a b c d e f g h).toNat ||| 128 = (byte8 true b c d e f g h).toNat ∧ (byte8 a b c d e f g h).toNat ||| 64 = (byte8 a true c d e f g h).toNat ∧
    (byte8 a b c d e f g h).toNat ||| 32 = (byte8 a b true d e f g h).toNat ∧ (byte8 a b c d e f g h).toNat ||| 16 = (byte8 a b c true e f g h).toNat ∧
    (byte8 a b c d e f g h).toNat ||| 8 = (byte8 a b c d true f g h).toNat ∧ (byte8 a b c d e f g h).toNat ||| 4 = (byte8 a b c d e true g h).toNat ∧
    (byte8 a b c d e f g h).toNat ||| 2 = (byte8 a b c d e f true h).toNat ∧ (byte8 a b c d e f g h).toNat ||| 1 = (byte8 a b c d e f g true).toNat := by decide

theorem getD_snoc (l : List Bool) (x : Bool) (i : Nat) : (l ++ [x]).getD i false = if i = l.length then x else l.getD i false := by
  simp only [List.getD, List.getElem?_append]
  by_cases h : i < l.length
  · rw [if_pos h, if_neg (by omega)]
  · rw [if_neg h]
    by_cases h2 : i = l.length
    · subst h2; simp
    · rw [if_neg h2, List.getElem?_eq_none (by simp; omega), List.getElem?_eq_none (by omega)]

theorem byteAt_snoc_far (l : List Bool) (x : Bool) (i : Nat) (h : i ≠ l.length / 8) : byteAt (l ++ [x]) i = byteAt l i := by
  unfold byteAt
  simp only [getD_snoc]
  rw [if_neg (by omega), if_neg (by omega), if_neg (by omega), if_neg (by omega), if_neg (by omega), if_neg (by omega), if_neg (by omega), if_neg (by omega)]
theorem byteAt_snoc_false (l : List Bool) (i : Nat) : byteAt (l ++ [false]) i = byteAt l i := by
  unfold byteAt
  simp only [getD_snoc]
  have : ∀ j, (if j = l.length then false else l.getD j false) = l.getD j false := by
    intro j
    split
    · rename_i h; subst h; simp [List.getD]
    · rfl
  simp only [this]
theorem byteAt_over (l : List Bool) (i : Nat) (h : l.length ≤ 8 * i) : byteAt l i = 0 := by
  unfold byteAt
  have : ∀ j, 8 * i ≤ j → l.getD j false = false := fun j hj => by simp [List.getD, List.getElem?_eq_none (show l.length ≤ j by omega)]
  rw [this _ (by omega), this _ (by omega), this _ (by omega), this _ (by omega), this _ (by omega), this _ (by omega), this _ (by omega), this _ (by omega)]
  rfl
theorem byteAt_snoc_true (l : List Bool) : (byteAt l (l.length / 8)).toNat ||| 2 ^ (7 - l.length % 8) = (byteAt (l ++ [true]) (l.length / 8)).toNat := by
  unfold byteAt
  simp only [getD_snoc]
  have hb := byte8_or (l.getD (8 * (l.length / 8)) false) (l.getD (8 * (l.length / 8) + 1) false) (l.getD (8 * (l.length / 8) + 2) false) (l.getD (8 * (l.length / 8) + 3) false) (l.getD (8 * (l.length / 8) + 4) false) (l.getD (8 * (l.length / 8) + 5) false) (l.getD (8 * (l.length / 8) + 6) false) (l.getD (8 * (l.length / 8) + 7) false)
  obtain ⟨h0, h1, h2, h3, h4, h5, h6, h7⟩ := hb
  have hm : l.length % 8 < 8 := Nat.mod_lt _ (by omega)
  have hd : 8 * (l.length / 8) + l.length % 8 = l.length := by omega
  rcases (show l.length % 8 = 0 ∨ l.length % 8 = 1 ∨ l.length % 8 = 2 ∨ l.length % 8 = 3 ∨ l.length % 8 = 4 ∨ l.length % 8 = 5 ∨ l.length % 8 = 6 ∨ l.length % 8 = 7 by omega) with h | h | h | h | h | h | h | h <;> rw [h] at hd ⊢
  · rw [if_pos (by omega), if_neg (by omega), if_neg (by omega), if_neg (by omega), if_neg (by omega), if_neg (by omega), if_neg (by omega), if_neg (by omega)]; exact h0
  · rw [if_neg (by omega), if_pos (by omega), if_neg (by omega), if_neg (by omega), if_neg (by omega), if_neg (by omega), if_neg (by omega), if_neg (by omega)]; exact h1
  · rw [if_neg (by omega), if_neg (by omega), if_pos (by omega), if_neg (by omega), if_neg (by omega), if_neg (by omega), if_neg (by omega), if_neg (by omega)]; exact h2
  · rw [if_neg (by omega), if_neg (by omega), if_neg (by omega), if_pos (by omega), if_neg (by omega), if_neg (by omega), if_neg (by omega), if_neg (by omega)]; exact h3
  · rw [if_neg (by omega), if_neg (by omega), if_neg (by omega), if_neg (by omega), if_pos (by omega), if_neg (by omega), if_neg (by omega), if_neg (by omega)]; exact h4
  · rw [if_neg (by omega), if_neg (by omega), if_neg (by omega), if_neg (by omega), if_neg (by omega), if_pos (by omega), if_neg (by omega), if_neg (by omega)]; exact h5
  · rw [if_neg (by omega), if_neg (by omega), if_neg (by omega), if_neg (by omega), if_neg (by omega), if_neg (by omega), if_pos (by omega), if_neg (by omega)]; exact h6
  · rw [if_neg (by omega), if_neg (by omega), if_neg (by omega), if_neg (by omega), if_neg (by omega), if_neg (by omega), if_neg (by omega), if_pos (by omega)]; exact h7

def grown (l : List Bool) : List UInt8 := if l.length % 8 = 0 then pack l ++ [0] else pack l
theorem grown_eq (l : List Bool) : grown l = pack (l ++ [false]) := by
  unfold grown
  apply List.ext_getElem?
  intro i
  by_cases h : l.length % 8 = 0
  · rw [if_pos h]
    by_cases hi : i < (l.length + 7) / 8
    · rw [List.getElem?_append_left (by rw [pack_length]; exact hi), pack_get l i hi, pack_get _ i (by rw [List.length_append]; simp; omega), byteAt_snoc_false]
    · by_cases hi2 : i = (l.length + 7) / 8
      · rw [List.getElem?_append_right (by rw [pack_length]; omega), pack_length, pack_get _ i (by rw [List.length_append]; simp; omega), byteAt_snoc_false, byteAt_over l i (by omega), hi2]
        simp
      · rw [List.getElem?_eq_none (by rw [List.length_append, pack_length]; simp; omega), List.getElem?_eq_none (by rw [pack_length, List.length_append]; simp; omega)]
  · rw [if_neg h]
    by_cases hi : i < (l.length + 7) / 8
    · rw [pack_get l i hi, pack_get _ i (by rw [List.length_append]; simp; omega), byteAt_snoc_false]
    · rw [List.getElem?_eq_none (by rw [pack_length]; omega), List.getElem?_eq_none (by rw [pack_length, List.length_append]; simp; omega)]
theorem grown_length (l : List Bool) : (grown l).length = l.length / 8 + 1 := by rw [grown_eq, pack_length, List.length_append]; simp; omega
theorem grown_last (l : List Bool) : (grown l)[l.length / 8]? = some (byteAt l (l.length / 8)) := by
  rw [grown_eq, pack_get _ _ (by rw [List.length_append]; simp; omega), byteAt_snoc_false]
theorem grown_set (l : List Bool) (x : UInt8) (hx : x.toNat = (byteAt l (l.length / 8)).toNat ||| 2 ^ (7 - l.length % 8)) : (grown l).set (l.length / 8) x = pack (l ++ [true]) := by
  rw [byteAt_snoc_true] at hx
  have hx : x = byteAt (l ++ [true]) (l.length / 8) := UInt8.toNat_inj.1 hx
  subst hx
  apply List.ext_getElem?
  intro i
  by_cases hi : i = l.length / 8
  · subst hi
    rw [List.getElem?_set_self (by rw [grown_length]; omega), pack_get _ _ (by rw [List.length_append]; simp; omega)]
  · rw [List.getElem?_set_ne (fun e => hi e.symm), grown_eq]
    by_cases hi2 : i < (l.length + 1 + 7) / 8
    · rw [pack_get _ i (by rw [List.length_append]; simpa using hi2), pack_get _ i (by rw [List.length_append]; simpa using hi2), byteAt_snoc_far _ _ _ hi, byteAt_snoc_far _ _ _ hi]
    · rw [List.getElem?_eq_none (by rw [pack_length, List.length_append]; simp; omega), List.getElem?_eq_none (by rw [pack_length, List.length_append]; simp; omega)]

def bitsOf (v : Nat) : Nat → List Bool
  | 0 => []
  | n + 1 => (v / 2 ^ n % 2 == 1) :: bitsOf v n
theorem bitsOf_length (v : Nat) : ∀ n, (bitsOf v n).length = n
  | 0 => rfl
  | n + 1 => by rw [bitsOf, List.length_cons, bitsOf_length]
def clip (n : Int) : Nat := (min (max n 0) 64).toNat
theorem clip_le (n : Int) : clip n ≤ 64 := by unfold clip; omega
def ones (n most : Int) : Nat := (min (max n 0) (max most 0)).toNat
def unary (n most : Int) : List Bool := List.replicate (ones n most) true ++ if (ones n most : Int) < most then [false] else []

theorem bit_and (u j : Nat) (hu : u < 18446744073709551616) : (bits .and .u64 ((u : Int) / 2 ^ j) 1 == 1) = (u / 2 ^ j % 2 == 1) := by
  have e1 : (u : Int) / 2 ^ j = ((u / 2 ^ j : Nat) : Int) := by simp
  have hle : u / 2 ^ j ≤ u := Nat.div_le_self _ _
  have := u64_and_nat (u / 2 ^ j) 1 (by omega) (by omega)
  rw [nat_mask1] at this
  rw [e1, show (1 : Int) = ((1 : Nat) : Int) from rfl, this, Bool.eq_iff_iff, beq_iff_eq, beq_iff_eq]
  omega

def width (v : Nat) : Nat := if v = 0 then 0 else width (v / 2) + 1
  termination_by v
  decreasing_by omega
theorem width_zero : width 0 = 0 := by rw [width, if_pos rfl]
theorem width_pos (v : Nat) (h : 0 < v) : width v = width (v / 2) + 1 := by rw [width, if_neg (by omega)]
theorem width_lt : ∀ (n v : Nat), v < 2 ^ n → width v ≤ n
  | 0, v, h => by rw [show v = 0 by simpa using h, width_zero]; exact Nat.le_refl _
  | n + 1, v, h => by
    rcases Nat.eq_zero_or_pos v with h0 | h0
    · rw [h0, width_zero]; omega
    · rw [width_pos v h0]
      have := width_lt n (v / 2) (by rw [Nat.pow_succ] at h; omega)
      omega
theorem width_le (v : Nat) (h : v < 18446744073709551616) : width v ≤ 64 := width_lt 64 v (by simpa using h)
theorem width_spec : ∀ v : Nat, v < 2 ^ width v ∧ (0 < v → 2 ^ (width v - 1) ≤ v) := by
  intro v
  induction v using Nat.strongRecOn with
  | _ v ih =>
    rcases Nat.eq_zero_or_pos v with h0 | h0
    · subst h0; rw [width_zero]; simp
    · obtain ⟨h1, h2⟩ := ih (v / 2) (by omega)
      rw [width_pos v h0]
      refine ⟨by rw [Nat.pow_succ]; omega, fun _ => ?_⟩
      rw [Nat.add_sub_cancel]
      rcases Nat.eq_zero_or_pos (v / 2) with h3 | h3
      · rw [h3, width_zero]; simp; omega
      · have h4 := h2 h3
        have h5 : width (v / 2) = (width (v / 2) - 1) + 1 := by rw [width_pos _ h3]; omega
        rw [h5, Nat.pow_succ]
        omega

def vb (l : List Bool) (i : Nat) : Nat → Nat
  | 0 => 0
  | j + 1 => 2 * vb l i j + (if l.getD (i + j) false then 1 else 0)
theorem vb_lt (l : List Bool) (i : Nat) : ∀ j, vb l i j < 2 ^ j
  | 0 => by simp [vb]
  | j + 1 => by
    have := vb_lt l i j
    rw [vb, Nat.pow_succ]
    split <;> omega
theorem byte8_val : ∀ a b c d e f g h : Bool, (byte8 a b c d e f g h).toNat =
    2 * (2 * (2 * (2 * (2 * (2 * (2 * (2 * 0 + (if a then 1 else 0)) + (if b then 1 else 0)) + (if c then 1 else 0)) + (if d then 1 else 0)) + (if e then 1 else 0)) + (if f then 1 else 0)) + (if g then 1 else 0)) + (if h then 1 else 0) := by decide
theorem vb_byte (l : List Bool) (q : Nat) : vb l (8 * q) 8 = (byteAt l q).toNat := by
  unfold byteAt
  rw [byte8_val]
  rfl
theorem pack_take (l : List Bool) (q : Nat) (h : q < (l.length + 7) / 8) : (pack l).take q ++ [byteAt l q] = (pack l).take (q + 1) := by
  rw [List.take_add_one, pack_get l q h]
  rfl

def unbyte (x : UInt8) : List Bool := [bitOf x 0, bitOf x 1, bitOf x 2, bitOf x 3, bitOf x 4, bitOf x 5, bitOf x 6, bitOf x 7]
def unpack (s : List UInt8) : List Bool := s.flatMap unbyte
theorem unpack_cons (x : UInt8) (s : List UInt8) : unpack (x :: s) = unbyte x ++ unpack s := rfl
theorem unpack_length : ∀ s : List UInt8, (unpack s).length = 8 * s.length
  | [] => rfl
  | x :: s => by rw [unpack_cons, List.length_append, unpack_length s]; simp [unbyte]; omega
theorem unbyte_get (x : UInt8) (k : Nat) (h : k < 8) : (unbyte x)[k]? = some (bitOf x k) := by
  rcases (show k = 0 ∨ k = 1 ∨ k = 2 ∨ k = 3 ∨ k = 4 ∨ k = 5 ∨ k = 6 ∨ k = 7 by omega) with h | h | h | h | h | h | h | h <;> subst h <;> rfl
theorem unpack_get : ∀ (s : List UInt8) (i : Nat), i < 8 * s.length → (unpack s)[i]? = some (bitOf (s.getD (i / 8) 0) (i % 8))
  | [], i, h => by simp at h
  | x :: s, i, h => by
    rw [unpack_cons]
    have hl : (unbyte x).length = 8 := rfl
    by_cases h8 : i < 8
    · rw [List.getElem?_append_left (by omega), unbyte_get x i h8, show i / 8 = 0 by omega, show i % 8 = i by omega]
      rfl
    · rw [List.getElem?_append_right (by omega), hl, unpack_get s (i - 8) (by rw [List.length_cons] at h; omega)]
      rw [show i / 8 = (i - 8) / 8 + 1 by omega, show (i - 8) % 8 = i % 8 by omega]
      simp [List.getD]
theorem bit_shl (x : UInt8) (k : Nat) (h : k < 8) : (bits .and .u8 ((x.toNat : Int) * 2 ^ k % 256) 128 != 0) = bitOf x k := by
  have hx := UInt8.toNat_lt x
  have e1 : (x.toNat : Int) * 2 ^ k % 256 = ((x.toNat * 2 ^ k % 256 : Nat) : Int) := by simp
  rw [e1]
  have := u8_and_nat (x.toNat * 2 ^ k % 256) 128 (by omega) (by omega)
  rw [show (128 : Int) = ((128 : Nat) : Int) from rfl, this, nat_bit 7 (x.toNat * 2 ^ k % 256)]
  unfold bitOf
  rw [Bool.eq_iff_iff, bne_iff_ne, beq_iff_eq]
  rcases (show k = 0 ∨ k = 1 ∨ k = 2 ∨ k = 3 ∨ k = 4 ∨ k = 5 ∨ k = 6 ∨ k = 7 by omega) with h | h | h | h | h | h | h | h <;> subst h <;> omega

def eyeBit (L : List Bool) (p e : Nat) : Bool × Nat × Nat := if e ≠ 0 then (false, p, e) else if p < L.length then (L.getD p false, p + 1, 0) else (false, p, 2)
def num (l : List Bool) : Nat := l.foldl (fun v b => 2 * v + (if b then 1 else 0)) 0
theorem num_snoc (l : List Bool) (b : Bool) : num (l ++ [b]) = 2 * num l + (if b then 1 else 0) := by simp [num, List.foldl_append]
theorem num_lt : ∀ (n : Nat) (l : List Bool), l.length = n → num l < 2 ^ n
  | 0, l, h => by rw [List.eq_nil_of_length_eq_zero h]; simp [num]
  | n + 1, l, h => by
    have hne : l ≠ [] := by intro e; subst e; simp at h
    rw [← List.dropLast_concat_getLast hne, num_snoc]
    have := num_lt n l.dropLast (by rw [List.length_dropLast]; omega)
    rw [Nat.pow_succ]
    split <;> omega
def eyeBits (L : List Bool) (p e : Nat) (n : Int) : Nat × Nat × Nat :=
  if e ≠ 0 then (0, p, e) else if L.length - p < clip n then (0, p, 2) else (num ((L.drop p).take (clip n)), p + clip n, 0)
def run (L : List Bool) (p : Nat) : Nat → Nat
  | 0 => 0
  | m + 1 => if L.getD p false then run L (p + 1) m + 1 else 0
theorem run_le (L : List Bool) : ∀ (m p : Nat), run L p m ≤ m
  | 0, _ => Nat.le_refl _
  | m + 1, p => by rw [run]; split; have := run_le L m (p + 1); omega; omega
def eyeUnary (L : List Bool) (p e : Nat) (most : Int) : Nat × Nat × Nat :=
  if e ≠ 0 then (0, p, e)
  else if run L p most.toNat = most.toNat then (most.toNat, p + most.toNat, 0)
  else if p + run L p most.toNat < L.length then (run L p most.toNat, p + run L p most.toNat + 1, 0)
  else (0, p + run L p most.toNat, 2)

theorem or_one (x : Nat) (h : x < 9223372036854775808) (y : Int) (hy : y = ((2 * x : Nat) : Int)) : bits .or .u64 y 1 = ((2 * x + 1 : Nat) : Int) := by
  subst hy
  have := u64_or_nat (2 * x) 1 (by omega) (by omega)
  rw [show (1 : Int) = ((1 : Nat) : Int) from rfl, this]
  congr 1
  rw [nat_join 1 (2 * x) 1 (by omega) (by omega)]
theorem take_next (L : List Bool) (p k : Nat) (h : p + k < L.length) : (L.drop p).take (k + 1) = (L.drop p).take k ++ [L.getD (p + k) false] := by
  rw [List.take_add_one, List.getElem?_drop, List.getElem?_eq_getElem h]
  simp [List.getD, List.getElem?_eq_getElem h]

theorem run_true (L : List Bool) (p m : Nat) (h : L.getD p false = true) : run L p (m + 1) = run L (p + 1) m + 1 := by rw [run, if_pos h]
theorem run_false (L : List Bool) (p m : Nat) (h : L.getD p false = false) : run L p (m + 1) = 0 := by rw [run, if_neg (by rw [h]; decide)]

end Go.Bar.Bit

/-
  Layer 3: plain laws of bits that are written and taken again. No program in sight.
-/
namespace Go.Bar.Bit
open Go.RowKit Go.Bar

theorem getD_drop (L : List Bool) (p k : Nat) : (L.drop p).getD k false = L.getD (p + k) false := by
  rw [List.getD_eq_getElem?_getD, List.getD_eq_getElem?_getD, List.getElem?_drop]
theorem unpack_pack_get (l : List Bool) (i : Nat) (h : i < 8 * ((l.length + 7) / 8)) : (unpack (pack l))[i]? = some (l.getD i false) := by
  rw [unpack_get _ _ (by rw [pack_length]; exact h)]
  have hq : i / 8 < (l.length + 7) / 8 := by omega
  have hb : (pack l).getD (i / 8) 0 = byteAt l (i / 8) := by rw [List.getD_eq_getElem?_getD, pack_get l _ hq]; rfl
  rw [hb]
  unfold byteAt
  obtain ⟨h0, h1, h2, h3, h4, h5, h6, h7⟩ := byte8_bits (l.getD (8 * (i / 8)) false) (l.getD (8 * (i / 8) + 1) false) (l.getD (8 * (i / 8) + 2) false) (l.getD (8 * (i / 8) + 3) false) (l.getD (8 * (i / 8) + 4) false) (l.getD (8 * (i / 8) + 5) false) (l.getD (8 * (i / 8) + 6) false) (l.getD (8 * (i / 8) + 7) false)
  have hi := Nat.div_add_mod i 8
  rcases (show i % 8 = 0 ∨ i % 8 = 1 ∨ i % 8 = 2 ∨ i % 8 = 3 ∨ i % 8 = 4 ∨ i % 8 = 5 ∨ i % 8 = 6 ∨ i % 8 = 7 by omega) with h | h | h | h | h | h | h | h <;> rw [h] at hi ⊢
  · rw [h0]; rw [show i = 8 * (i / 8) by omega]; simp
  · rw [h1]; congr 2
  · rw [h2]; congr 2
  · rw [h3]; congr 2
  · rw [h4]; congr 2
  · rw [h5]; congr 2
  · rw [h6]; congr 2
  · rw [h7]; congr 2
theorem unpack_pack_take (l : List Bool) : (unpack (pack l)).take l.length = l := by
  apply List.ext_getElem?
  intro i
  rw [List.getElem?_take]
  split
  · next h =>
    rw [unpack_pack_get l i (by omega), List.getD_eq_getElem?_getD, List.getElem?_eq_getElem h]
    rfl
  · next h => rw [List.getElem?_eq_none (by omega)]
theorem bitsOf_snoc (v : Nat) : ∀ n, bitsOf v (n + 1) = bitsOf (v / 2) n ++ [v % 2 == 1]
  | 0 => by simp [bitsOf]
  | n + 1 => by
    rw [bitsOf, bitsOf_snoc v n, bitsOf, List.cons_append]
    congr 1
    rw [Nat.div_div_eq_div_mul, Nat.pow_succ, Nat.mul_comm]
theorem num_bitsOf : ∀ (n v : Nat), num (bitsOf v n) = v % 2 ^ n
  | 0, v => by simp [bitsOf, num, Nat.mod_one]
  | n + 1, v => by
    rw [bitsOf_snoc, num_snoc, num_bitsOf n (v / 2), Nat.pow_succ, Nat.mul_comm (2 ^ n) 2, Nat.mod_mul]
    rcases Nat.mod_two_eq_zero_or_one v with h | h <;> rw [h] <;> simp <;> omega
theorem run_ones (L : List Bool) : ∀ (c p m : Nat) (rest : List Bool), L.drop p = List.replicate c true ++ rest → c ≤ m → (c < m → rest.getD 0 false = false) → run L p m = c
  | 0, p, 0, rest, _, _, _ => rfl
  | 0, p, m + 1, rest, h, _, h0 => by
    rw [run_false]
    have := getD_drop L p 0
    rw [Nat.add_zero] at this
    rw [← this, h]
    exact h0 (by omega)
  | c + 1, p, 0, rest, _, hc, _ => by omega
  | c + 1, p, m + 1, rest, h, hc, h0 => by
    have h1 := getD_drop L p 0
    rw [Nat.add_zero, h] at h1
    have h2 : L.drop (p + 1) = List.replicate c true ++ rest := by
      rw [← List.drop_drop, h, List.replicate_succ, List.cons_append, List.drop_succ_cons, List.drop_zero]
    rw [run_true L p m (by rw [← h1, List.replicate_succ, List.cons_append]; rfl), run_ones L c (p + 1) m rest h2 (by omega) (fun hh => h0 (by omega))]

theorem eyeBit_of {L rest : List Bool} {p : Nat} {x : Bool} (h : L.drop p = [x] ++ rest) : eyeBit L p 0 = (x, p + 1, 0) := by
  have h1 := getD_drop L p 0
  rw [Nat.add_zero, h] at h1
  have hl := congrArg List.length h
  rw [List.length_drop, List.length_append] at hl
  simp only [List.length_cons, List.length_nil] at hl
  unfold eyeBit
  rw [if_neg (by omega), if_pos (by omega), ← h1]
  rfl
theorem eyeBits_of {L rest : List Bool} {p v : Nat} {n : Int} (h : L.drop p = bitsOf v (clip n) ++ rest) : eyeBits L p 0 n = (v % 2 ^ clip n, p + clip n, 0) := by
  have hl := congrArg List.length h
  rw [List.length_drop, List.length_append, bitsOf_length] at hl
  unfold eyeBits
  rw [if_neg (by omega), if_neg (by omega), h]
  rw [List.take_append_of_le_length (by rw [bitsOf_length]; exact Nat.le_refl _), List.take_of_length_le (by rw [bitsOf_length]; exact Nat.le_refl _), num_bitsOf]
theorem eyeUnary_of {L rest : List Bool} {p : Nat} {n m : Int} (h : L.drop p = unary n m ++ rest) : eyeUnary L p 0 m = (ones n m, p + (unary n m).length, 0) := by
  obtain ⟨c, hc⟩ : ∃ c, c = ones n m := ⟨_, rfl⟩
  have hc1 : (c : Int) = min (max n 0) (max m 0) := by rw [hc]; unfold ones; omega
  have hl := congrArg List.length h
  rw [List.length_drop, List.length_append] at hl
  unfold unary at h hl ⊢
  rw [← hc] at h hl ⊢
  unfold eyeUnary
  rw [if_neg (by omega)]
  by_cases hlt : (c : Int) < m
  · rw [if_pos hlt] at h hl ⊢
    rw [List.append_assoc] at h
    have hr := run_ones L c p m.toNat ([false] ++ rest) h (by omega) (fun _ => rfl)
    rw [List.length_append, List.length_replicate] at hl ⊢
    simp only [List.length_cons, List.length_nil] at hl ⊢
    rw [hr, if_neg (by omega), if_pos (by omega)]
    simp only [Nat.add_assoc]
  · rw [if_neg hlt, List.append_nil] at h hl ⊢
    have hr := run_ones L c p m.toNat rest h (by omega) (fun hh => by omega)
    have hm : m.toNat = c := by omega
    rw [hr, if_pos hm.symm, hm, List.length_replicate]


theorem run_all (L : List Bool) : ∀ (m p k : Nat), k < run L p m → L[p + k]? = some true
  | 0, p, k, h => by simp [run] at h
  | m + 1, p, k, h => by
    rcases hb : L.getD p false with _ | _
    · rw [run_false L p m hb] at h; omega
    · rw [run_true L p m hb] at h
      rcases k with _ | k
      · rw [Nat.add_zero]
        rw [List.getD_eq_getElem?_getD] at hb
        rcases hx : L[p]? with _ | x
        · rw [hx] at hb; simp at hb
        · rw [hx] at hb; simp at hb; rw [hb]
      · have := run_all L m (p + 1) k (by omega)
        rw [show p + (k + 1) = p + 1 + k by omega]
        exact this
theorem run_stop (L : List Bool) : ∀ (m p : Nat), run L p m < m → L.getD (p + run L p m) false = false
  | 0, p, h => by omega
  | m + 1, p, h => by
    rcases hb : L.getD p false with _ | _
    · rw [run_false L p m hb, Nat.add_zero]; exact hb
    · rw [run_true L p m hb] at h ⊢
      have := run_stop L m (p + 1) (by omega)
      rw [show p + (run L (p + 1) m + 1) = p + 1 + run L (p + 1) m by omega]
      exact this

end Go.Bar.Bit

/-
  Plain mathematics of layer 7 (xor): samples as bits, and back. No program in sight; no condition.
-/
namespace Go.Bar.Xor
open Go.RowKit Go.Bar Go.Bar.Bit Go.Bar.Leb

def wd (k : Nat) : Nat := if k = 0 then 0 else if k = 1 then 7 else if k = 2 then 12 else if k = 3 then 20 else 64
def kind (u : Nat) : Nat := if width u ≤ 0 then 0 else if width u ≤ 7 then 1 else if width u ≤ 12 then 2 else if width u ≤ 20 then 3 else 4
def timeB (u : Nat) : List Bool := unary (kind u : Nat) 4 ++ bitsOf u (wd (kind u))
def tz (x : Nat) : Nat := if x = 0 ∨ x % 2 = 1 then 0 else tz (x / 2) + 1
  termination_by x
  decreasing_by omega
theorem tz_odd {x : Nat} (h : x % 2 = 1) : tz x = 0 := by rw [tz, if_pos (.inr h)]
theorem tz_even {x : Nat} (h0 : 0 < x) (h : x % 2 = 0) : tz x = tz (x / 2) + 1 := by rw [tz, if_neg (by omega)]
theorem tz_spec : ∀ x : Nat, 0 < x → 2 ^ tz x ∣ x ∧ x / 2 ^ tz x % 2 = 1 ∧ tz x < width x := by
  intro x
  induction x using Nat.strongRecOn with
  | _ x ih =>
    intro h0
    rcases Nat.mod_two_eq_zero_or_one x with h | h
    · obtain ⟨h1, h2, h3⟩ := ih (x / 2) (by omega) (by omega)
      rw [tz_even h0 h, width_pos x h0]
      refine ⟨?_, ?_, by omega⟩
      · rw [Nat.pow_succ, Nat.mul_comm]
        obtain ⟨c, hc⟩ := h1
        exact ⟨c, by rw [Nat.mul_assoc, ← hc]; omega⟩
      · rw [Nat.pow_succ, Nat.mul_comm, ← Nat.div_div_eq_div_mul]
        exact h2
    · rw [tz_odd h, width_pos x h0]
      simp [h]
theorem tz_low : ∀ (x j : Nat), j < tz x → x / 2 ^ j % 2 = 0 := by
  intro x
  induction x using Nat.strongRecOn with
  | _ x ih =>
    intro j hj
    by_cases h0 : x = 0 ∨ x % 2 = 1
    · rw [tz, if_pos h0] at hj; omega
    · rw [tz, if_neg h0] at hj
      rcases j with _ | j
      · simp; omega
      · rw [Nat.pow_succ, Nat.mul_comm, ← Nat.div_div_eq_div_mul]
        exact ih (x / 2) (by omega) j (by omega)

def fitW (lead wide x : Nat) : Prop := 0 < wide ∧ lead ≤ 64 - width x ∧ 64 - lead - wide ≤ tz x
instance (lead wide x : Nat) : Decidable (fitW lead wide x) := by unfold fitW; exact inferInstance
def valL (lead wide x : Nat) : Nat := if x = 0 ∨ fitW lead wide x then lead else 64 - width x
def valW (lead wide x : Nat) : Nat := if x = 0 ∨ fitW lead wide x then wide else width x - tz x
def valB (lead wide x : Nat) : List Bool :=
  if x = 0 then [false]
  else if fitW lead wide x then [true] ++ ([false] ++ bitsOf (x / 2 ^ (64 - lead - wide)) wide)
  else [true] ++ ([true] ++ (bitsOf (64 - width x) 6 ++ (bitsOf (width x - tz x - 1) 6 ++ bitsOf (x / 2 ^ tz x) (width x - tz x))))

structure St where
  bits : List Bool
  n : Nat
  t : Int
  v : Nat
  step : Int
  lead : Nat
  wide : Nat
def St.zero : St := ⟨[], 0, 0, 0, 0, 0, 0⟩
def St.put (s : St) (x : Sm) : St :=
  if s.n = 0 then ⟨s.bits ++ bitsOf x.1.toNat 41 ++ bitsOf x.2 64, 1, x.1, x.2, s.step, s.lead, s.wide⟩
  else ⟨s.bits ++ timeB (fold (x.1 - s.t - s.step)) ++ valB s.lead s.wide (x.2 ^^^ s.v), s.n + 1, x.1, x.2, x.1 - s.t, valL s.lead s.wide (x.2 ^^^ s.v), valW s.lead s.wide (x.2 ^^^ s.v)⟩
def err (s : St) (x : Sm) : Nat := if x.1 < 0 ∨ 1099511627776 < x.1 then 1 else if 0 < s.n ∧ x.1 ≤ s.t then 10 else if s.n = 120 then 7 else 0
def text (s : St) : List UInt8 := u s.n ++ (u s.bits.length ++ pack s.bits)
def ofS : St → List Sm → St × Nat
  | s, [] => (s, 0)
  | s, x :: l => if err s x = 0 then ofS (s.put x) l else (s, err s x)

structure St.Ok (s : St) : Prop where
  n : s.n ≤ 120
  t : 0 ≤ s.t ∧ s.t ≤ 1099511627776
  v : s.v < 18446744073709551616
  step : 0 ≤ s.step ∧ s.step ≤ 1099511627776
  win : s.lead + s.wide ≤ 64
  len : s.bits.length ≤ 150 * s.n
  emp : s.n = 0 → s.step = 0 ∧ s.lead = 0 ∧ s.wide = 0
theorem St.zero_ok : St.zero.Ok := ⟨by decide, by decide, by decide, by decide, by decide, by decide, fun _ => ⟨rfl, rfl, rfl⟩⟩

theorem wd_le (k : Nat) : wd k ≤ 64 := by unfold wd; repeat' split
                                          all_goals omega
theorem kind_le (u : Nat) : kind u ≤ 4 := by unfold kind; repeat' split
                                             all_goals omega
theorem kind_wd (u : Nat) (h : u < 18446744073709551616) : width u ≤ wd (kind u) := by
  have := width_le u h
  unfold kind wd
  repeat' split
  all_goals omega
theorem ones_len (n : Nat) (h : n ≤ 4) : (unary (n : Nat) 4).length ≤ 4 := by
  unfold unary
  have h1 : ones (n : Int) 4 = n := by unfold ones; omega
  rw [h1, List.length_append, List.length_replicate]
  split <;> simp <;> omega
theorem timeB_len (u : Nat) : (timeB u).length ≤ 68 := by
  unfold timeB
  rw [List.length_append, bitsOf_length]
  have := ones_len (kind u) (kind_le u)
  have := wd_le (kind u)
  omega
theorem xor_lt {a b : Nat} (ha : a < 18446744073709551616) (hb : b < 18446744073709551616) : a ^^^ b < 18446744073709551616 := Nat.xor_lt_two_pow (n := 64) (by simpa using ha) (by simpa using hb)
theorem valB_len (lead wide x : Nat) (hx : x < 18446744073709551616) (hw : lead + wide ≤ 64) : (valB lead wide x).length ≤ 78 := by
  have := width_le x hx
  unfold valB
  split
  · simp
  · split
    · simp [bitsOf_length]; omega
    · simp [bitsOf_length]; omega
theorem win_ok (lead wide x : Nat) (hw : lead + wide ≤ 64) (hx : x < 18446744073709551616) : valL lead wide x + valW lead wide x ≤ 64 := by
  unfold valL valW
  have := width_le x hx
  split <;> omega
theorem err_zero {s : St} {x : Sm} (h : err s x = 0) : 0 ≤ x.1 ∧ x.1 ≤ 1099511627776 ∧ (0 < s.n → s.t < x.1) ∧ s.n ≠ 120 := by
  unfold err at h
  repeat' split at h
  all_goals first | exact absurd h (by decide) | (refine ⟨?_, ?_, ?_, ?_⟩ <;> omega)
theorem St.Ok.put {s : St} {x : Sm} (h : s.Ok) (he : err s x = 0) (hx : x.2 < 18446744073709551616) : (s.put x).Ok := by
  obtain ⟨h1, h2, h3, h4⟩ := err_zero he
  have hn := h.n
  have ht := h.t
  unfold St.put
  split
  · next h0 =>
    have hl := h.len
    obtain ⟨g1, g2, g3⟩ := h.emp h0
    refine ⟨by show 1 ≤ 120; omega, ⟨h1, h2⟩, hx, h.step, h.win, ?_, fun h => absurd h (by show ¬ (1 = 0); omega)⟩
    show (s.bits ++ bitsOf x.1.toNat 41 ++ bitsOf x.2 64).length ≤ 150 * 1
    simp [bitsOf_length]; omega
  · next h0 =>
    have hl := h.len
    have h5 := h3 (by omega)
    have hxx := xor_lt hx h.v
    refine ⟨by show s.n + 1 ≤ 120; omega, ⟨h1, h2⟩, hx, ⟨by show 0 ≤ x.1 - s.t; omega, by show x.1 - s.t ≤ _; omega⟩, win_ok _ _ _ h.win hxx, ?_, fun h => absurd h (by show ¬ (s.n + 1 = 0); omega)⟩
    show (s.bits ++ timeB (fold (x.1 - s.t - s.step)) ++ valB s.lead s.wide (x.2 ^^^ s.v)).length ≤ 150 * (s.n + 1)
    have := timeB_len (fold (x.1 - s.t - s.step))
    have := valB_len s.lead s.wide (x.2 ^^^ s.v) hxx h.win
    simp only [List.length_append]; omega
theorem put_n (s : St) (x : Sm) : (s.put x).n = s.n + 1 ∧ (s.put x).t = x.1 ∧ (s.put x).v = x.2 := by
  unfold St.put; split
  · next h => exact ⟨by show 1 = s.n + 1; omega, rfl, rfl⟩
  · exact ⟨rfl, rfl, rfl⟩

structure Ey where
  p : Nat
  e : Nat
  t : Int
  v : Nat
  step : Int
  lead : Nat
  wide : Nat
def timeR (L : List Bool) (y : Ey) : Int × Ey :=
  (wrap64 (y.t + wrap64 (y.step + unfold (eyeBits L (eyeUnary L y.p y.e 4).2.1 (eyeUnary L y.p y.e 4).2.2 (wd (eyeUnary L y.p y.e 4).1 : Nat)).1)),
    { y with p := (eyeBits L (eyeUnary L y.p y.e 4).2.1 (eyeUnary L y.p y.e 4).2.2 (wd (eyeUnary L y.p y.e 4).1 : Nat)).2.1, e := (eyeBits L (eyeUnary L y.p y.e 4).2.1 (eyeUnary L y.p y.e 4).2.2 (wd (eyeUnary L y.p y.e 4).1 : Nat)).2.2, step := wrap64 (y.step + unfold (eyeBits L (eyeUnary L y.p y.e 4).2.1 (eyeUnary L y.p y.e 4).2.2 (wd (eyeUnary L y.p y.e 4).1 : Nat)).1) })
def winR (L : List Bool) (y : Ey) (p e : Nat) : Ey :=
  { y with p := (eyeBits L (eyeBits L p e 6).2.1 (eyeBits L p e 6).2.2 6).2.1, e := (eyeBits L (eyeBits L p e 6).2.1 (eyeBits L p e 6).2.2 6).2.2, lead := (eyeBits L p e 6).1, wide := (eyeBits L (eyeBits L p e 6).2.1 (eyeBits L p e 6).2.2 6).1 + 1 }
def inR (L : List Bool) (y : Ey) : Nat × Nat × Ey :=
  if y.wide = 0 ∨ 64 < y.lead + y.wide then (0, 3, y)
  else (y.v ^^^ ((eyeBits L y.p y.e (y.wide : Nat)).1 * 2 ^ (64 - y.lead - y.wide)), 0, { y with p := (eyeBits L y.p y.e (y.wide : Nat)).2.1, e := (eyeBits L y.p y.e (y.wide : Nat)).2.2 })
def valR (L : List Bool) (y : Ey) : Nat × Nat × Ey :=
  if (eyeBit L y.p y.e).1 = false then (y.v, 0, { y with p := (eyeBit L y.p y.e).2.1, e := (eyeBit L y.p y.e).2.2 })
  else if (eyeBit L (eyeBit L y.p y.e).2.1 (eyeBit L y.p y.e).2.2).1 = true then inR L (winR L y (eyeBit L (eyeBit L y.p y.e).2.1 (eyeBit L y.p y.e).2.2).2.1 (eyeBit L (eyeBit L y.p y.e).2.1 (eyeBit L y.p y.e).2.2).2.2)
  else inR L { y with p := (eyeBit L (eyeBit L y.p y.e).2.1 (eyeBit L y.p y.e).2.2).2.1, e := (eyeBit L (eyeBit L y.p y.e).2.1 (eyeBit L y.p y.e).2.2).2.2 }
def firstR (L : List Bool) (y : Ey) : Sm × Nat × Ey :=
  ((((eyeBits L y.p y.e 41).1 : Int), (eyeBits L (eyeBits L y.p y.e 41).2.1 (eyeBits L y.p y.e 41).2.2 64).1), (eyeBits L (eyeBits L y.p y.e 41).2.1 (eyeBits L y.p y.e 41).2.2 64).2.2,
    { y with p := (eyeBits L (eyeBits L y.p y.e 41).2.1 (eyeBits L y.p y.e 41).2.2 64).2.1, e := (eyeBits L (eyeBits L y.p y.e 41).2.1 (eyeBits L y.p y.e 41).2.2 64).2.2 })
def restR (L : List Bool) (y : Ey) : Sm × Nat × Ey :=
  if (valR L (timeR L y).2).2.2.e ≠ 0 then ((0, 0), (valR L (timeR L y).2).2.2.e, (valR L (timeR L y).2).2.2)
  else (((timeR L y).1, (valR L (timeR L y).2).1), if (valR L (timeR L y).2).2.1 = 0 ∧ (timeR L y).1 ≤ y.t then 3 else (valR L (timeR L y).2).2.1, (valR L (timeR L y).2).2.2)
def nextR (L : List Bool) (y : Ey) (first : Bool) : Sm × Nat × Ey := if first = true then firstR L y else restR L y
def loopR (L : List Bool) : Nat → Nat → Ey → List Sm → List Sm × Nat
  | 0, _, _, acc => (acc, 0)
  | k + 1, i, y, acc =>
    if (nextR L y (i == 0)).2.1 ≠ 0 then ([], (nextR L y (i == 0)).2.1)
    else if 1099511627776 < (nextR L y (i == 0)).1.1 ∨ (nextR L y (i == 0)).1.1 < 0 then ([], 3)
    else loopR L k (i + 1) { (nextR L y (i == 0)).2.2 with t := (nextR L y (i == 0)).1.1, v := (nextR L y (i == 0)).1.2 } (acc ++ [(nextR L y (i == 0)).1])
def Ey.zero : Ey := ⟨0, 0, 0, 0, 0, 0, 0⟩

structure Sync (y : Ey) (s : St) : Prop where
  e : y.e = 0
  t : y.t = s.t
  v : y.v = s.v
  step : y.step = s.step
  lead : y.lead = s.lead
  wide : y.wide = s.wide

theorem clip_nat (n : Nat) (h : n ≤ 64) : clip (n : Int) = n := by unfold clip; omega
theorem mod_of_width {u n : Nat} (h : width u ≤ n) : u % 2 ^ n = u := Nat.mod_eq_of_lt (Nat.lt_of_lt_of_le (width_spec u).1 (Nat.pow_le_pow_right (by omega) h))
theorem wrap64_of (z : Int) (h1 : -9223372036854775808 ≤ z) (h2 : z ≤ 9223372036854775807) : wrap64 z = z := by
  unfold wrap64; omega

theorem timeR_of {L rest : List Bool} {y : Ey} {x : Int} (he : y.e = 0) (ht : 0 ≤ y.t ∧ y.t ≤ 1099511627776) (hs : 0 ≤ y.step ∧ y.step ≤ 1099511627776) (hx : 0 ≤ x ∧ x ≤ 1099511627776)
    (h : L.drop y.p = timeB (fold (x - y.t - y.step)) ++ rest) : timeR L y = (x, { y with p := y.p + (timeB (fold (x - y.t - y.step))).length, step := x - y.t }) := by
  obtain ⟨u, hu⟩ : ∃ u, u = fold (x - y.t - y.step) := ⟨_, rfl⟩
  have hu2 : u < 18446744073709551616 := by rw [hu]; exact fold_lt _ (by omega) (by omega)
  have huf : unfold u = x - y.t - y.step := by rw [hu, unfold_fold]
  rw [← hu] at h ⊢
  unfold timeB at h
  rw [List.append_assoc] at h
  have h1 := eyeUnary_of h
  have hk := kind_le u
  have ho : ones (kind u : Int) 4 = kind u := by unfold ones; omega
  rw [ho] at h1
  have h2 : L.drop (y.p + (unary (kind u : Int) 4).length) = bitsOf u (clip ((wd (kind u) : Nat) : Int)) ++ rest := by
    rw [← List.drop_drop, h, List.drop_left, clip_nat _ (wd_le _)]
  have h3 := eyeBits_of h2
  rw [clip_nat _ (wd_le _), mod_of_width (kind_wd u hu2)] at h3
  unfold timeR
  rw [he, h1]
  simp only
  rw [h3]
  simp only
  rw [huf, show y.step + (x - y.t - y.step) = x - y.t by omega, wrap64_of (x - y.t) (by omega) (by omega), show y.t + (x - y.t) = x by omega, wrap64_of x (by omega) (by omega)]
  rw [show (timeB u).length = (unary (kind u : Int) 4).length + wd (kind u) by unfold timeB; rw [List.length_append, bitsOf_length], ← Nat.add_assoc, ← he]
theorem low_bits {x a b : Nat} (h1 : 2 ^ a ∣ x) (h2 : x < 2 ^ (a + b)) : (x / 2 ^ a) % 2 ^ b * 2 ^ a = x := by
  have h3 : x / 2 ^ a < 2 ^ b := by
    rw [Nat.div_lt_iff_lt_mul (Nat.two_pow_pos _), ← Nat.pow_add, Nat.add_comm]; exact h2
  rw [Nat.mod_eq_of_lt h3, Nat.div_mul_cancel h1]
theorem inR_of {L rest : List Bool} {y : Ey} {x : Nat} (he : y.e = 0) (hw : 0 < y.wide) (hl : y.lead + y.wide ≤ 64) (hd : 2 ^ (64 - y.lead - y.wide) ∣ x) (hlt : x < 2 ^ (64 - y.lead))
    (h : L.drop y.p = bitsOf (x / 2 ^ (64 - y.lead - y.wide)) y.wide ++ rest) : inR L y = (y.v ^^^ x, 0, { y with p := y.p + y.wide }) := by
  have h' : L.drop y.p = bitsOf (x / 2 ^ (64 - y.lead - y.wide)) (clip ((y.wide : Nat) : Int)) ++ rest := by rw [clip_nat _ (by omega)]; exact h
  have h1 := eyeBits_of h'
  rw [clip_nat _ (by omega)] at h1
  unfold inR
  rw [if_neg (by omega), he, h1]
  simp only
  rw [low_bits hd (by rw [show 64 - y.lead - y.wide + y.wide = 64 - y.lead by omega]; exact hlt)]
theorem valR_of {L rest : List Bool} {y : Ey} {x : Nat} (he : y.e = 0) (hw : y.lead + y.wide ≤ 64) (hx : x < 18446744073709551616)
    (h : L.drop y.p = valB y.lead y.wide x ++ rest) : valR L y = (y.v ^^^ x, 0, { y with p := y.p + (valB y.lead y.wide x).length, lead := valL y.lead y.wide x, wide := valW y.lead y.wide x }) := by
  unfold valR
  unfold valB at h ⊢
  unfold valL valW
  rw [he]
  by_cases h0 : x = 0
  · rw [if_pos h0] at h
    rw [eyeBit_of h]
    simp only [if_true]
    rw [if_pos h0, if_pos (.inl h0), if_pos (.inl h0), h0, Nat.xor_zero]
    simp
  · rw [if_neg h0] at h
    obtain ⟨t1, t2, t3⟩ := tz_spec x (by omega)
    have hwx := width_le x hx
    have hsp := (width_spec x).1
    by_cases hf : fitW y.lead y.wide x
    · rw [if_pos hf, List.append_assoc] at h
      have h1 := eyeBit_of h
      have h2 : L.drop (y.p + 1) = [false] ++ (bitsOf (x / 2 ^ (64 - y.lead - y.wide)) y.wide ++ rest) := by
        rw [← List.drop_drop, h, List.append_assoc]; rfl
      have h3 := eyeBit_of h2
      have h4 : L.drop (y.p + 1 + 1) = bitsOf (x / 2 ^ (64 - y.lead - y.wide)) y.wide ++ rest := by
        rw [← List.drop_drop, h2]; rfl
      rw [h1]
      simp only
      rw [if_neg (by decide), h3]
      simp only
      rw [if_neg (by decide), if_neg h0, if_pos hf, if_pos (.inr hf), if_pos (.inr hf)]
      obtain ⟨f1, f2, f3⟩ := hf
      have := inR_of (L := L) (rest := rest) (y := { y with p := y.p + 1 + 1, e := 0 }) (x := x) rfl f1 hw (Nat.dvd_trans (Nat.pow_dvd_pow 2 f3) t1) (Nat.lt_of_lt_of_le hsp (Nat.pow_le_pow_right (by omega) (by show width x ≤ 64 - y.lead; omega))) h4
      rw [this]
      simp only [List.length_append, bitsOf_length, List.length_cons, List.length_nil]
      congr 2
      simp only [Ey.mk.injEq, and_true]
      first | omega | exact ⟨by omega, he.symm⟩
    · rw [if_neg hf, List.append_assoc] at h
      have h1 := eyeBit_of h
      have h2 : L.drop (y.p + 1) = [true] ++ (bitsOf (64 - width x) 6 ++ (bitsOf (width x - tz x - 1) 6 ++ (bitsOf (x / 2 ^ tz x) (width x - tz x) ++ rest))) := by
        rw [← List.drop_drop, h]; simp only [List.append_assoc]; rfl
      have h3 := eyeBit_of h2
      have h4 : L.drop (y.p + 1 + 1) = bitsOf (64 - width x) (clip 6) ++ (bitsOf (width x - tz x - 1) 6 ++ (bitsOf (x / 2 ^ tz x) (width x - tz x) ++ rest)) := by
        rw [← List.drop_drop, h2]; rfl
      have h5 := eyeBits_of h4
      have h6 : L.drop (y.p + 1 + 1 + clip 6) = bitsOf (width x - tz x - 1) (clip 6) ++ (bitsOf (x / 2 ^ tz x) (width x - tz x) ++ rest) := by
        rw [← List.drop_drop, h4, List.drop_left' (bitsOf_length _ _)]; rfl
      have h7 := eyeBits_of h6
      have h8 : L.drop (y.p + 1 + 1 + clip 6 + clip 6) = bitsOf (x / 2 ^ tz x) (width x - tz x) ++ rest := by
        rw [← List.drop_drop, h6, List.drop_left' (bitsOf_length _ _)]
      have c6 : clip 6 = 6 := rfl
      have hw1 := width_pos x (by omega)
      have m1 : (64 - width x) % 2 ^ clip 6 = 64 - width x := Nat.mod_eq_of_lt (by rw [c6]; omega)
      have m2 : (width x - tz x - 1) % 2 ^ clip 6 = width x - tz x - 1 := Nat.mod_eq_of_lt (by rw [c6]; omega)
      rw [m1] at h5
      rw [m2] at h7
      rw [h1]
      simp only
      rw [if_neg (by decide), h3]
      simp only
      rw [if_pos trivial, if_neg h0, if_neg hf, if_neg (fun h => h.elim h0 hf), if_neg (fun h => h.elim h0 hf)]
      unfold winR
      rw [h5]
      simp only
      rw [h7]
      simp only
      have hwd : width x - tz x - 1 + 1 = width x - tz x := by omega
      have hsh : 64 - (64 - width x) - (width x - tz x) = tz x := by omega
      have := inR_of (L := L) (rest := rest) (y := { y with p := y.p + 1 + 1 + clip 6 + clip 6, e := 0, lead := 64 - width x, wide := width x - tz x }) (x := x) rfl (by show 0 < width x - tz x; omega) (by show 64 - width x + (width x - tz x) ≤ 64; omega) (by show 2 ^ (64 - (64 - width x) - (width x - tz x)) ∣ x; rw [hsh]; exact t1) (by show x < 2 ^ (64 - (64 - width x)); rw [show 64 - (64 - width x) = width x by omega]; exact hsp) (by show L.drop (y.p + 1 + 1 + clip 6 + clip 6) = bitsOf (x / 2 ^ (64 - (64 - width x) - (width x - tz x))) (width x - tz x) ++ rest; rw [hsh]; exact h8)
      rw [hwd, this]
      simp only [List.length_append, bitsOf_length, List.length_cons, List.length_nil, c6]
      congr 2
      simp only [Ey.mk.injEq, and_true]
      first | omega | exact ⟨by omega, he.symm⟩

end Go.Bar.Xor

/-
  Plain mathematics of layer 7 (xor): the bytes of samples are samples again; there is one spelling. No program in sight; no condition.
-/
namespace Go.Bar.Xor
open Go.RowKit Go.Bar Go.Bar.Bit Go.Bar.Leb

theorem firstR_of {L rest : List Bool} {y : Ey} {x : Sm} (he : y.e = 0) (h0 : 0 ≤ x.1) (h1 : x.1 ≤ 1099511627776) (h2 : x.2 < 18446744073709551616)
    (h : L.drop y.p = bitsOf x.1.toNat 41 ++ (bitsOf x.2 64 ++ rest)) : firstR L y = (x, 0, { y with p := y.p + 105, e := 0 }) := by
  have c41 : clip 41 = 41 := rfl
  have c64 : clip 64 = 64 := rfl
  have g1 : L.drop y.p = bitsOf x.1.toNat (clip 41) ++ (bitsOf x.2 64 ++ rest) := h
  have g2 := eyeBits_of g1
  have g3 : L.drop (y.p + clip 41) = bitsOf x.2 (clip 64) ++ rest := by
    rw [← List.drop_drop, g1, List.drop_left' (bitsOf_length _ _)]; rfl
  have g4 := eyeBits_of g3
  rw [c41, Nat.mod_eq_of_lt (show x.1.toNat < 2 ^ 41 by omega)] at g2
  rw [c64, c41, Nat.mod_eq_of_lt (show x.2 < 2 ^ 64 by omega)] at g4
  unfold firstR
  rw [he, g2]
  simp only
  rw [g4]
  obtain ⟨a, b⟩ := x
  simp only at h0 ⊢
  rw [show ((a.toNat : Nat) : Int) = a by omega]
def inc (s : St) (x : Sm) : List Bool := if s.n = 0 then bitsOf x.1.toNat 41 ++ bitsOf x.2 64 else timeB (fold (x.1 - s.t - s.step)) ++ valB s.lead s.wide (x.2 ^^^ s.v)
theorem put_bits (s : St) (x : Sm) : (s.put x).bits = s.bits ++ inc s x := by
  unfold St.put inc; split <;> simp
def more : St → List Sm → List Bool
  | _, [] => []
  | s, x :: l => inc s x ++ more (s.put x) l
theorem ofS_more : ∀ (l : List Sm) (s s' : St), ofS s l = (s', 0) → s'.bits = s.bits ++ more s l ∧ s'.n = s.n + l.length
  | [], s, s', h => by
    simp only [ofS, Prod.mk.injEq, and_true] at h
    subst h; simp [more]
  | x :: l, s, s', h => by
    rw [ofS] at h
    by_cases he : err s x = 0
    · rw [if_pos he] at h
      obtain ⟨h1, h2⟩ := ofS_more l _ s' h
      rw [put_bits] at h1
      rw [(put_n s x).1] at h2
      exact ⟨by rw [h1, more, List.append_assoc], by rw [h2, List.length_cons]; omega⟩
    · rw [if_neg he] at h
      simp only [Prod.mk.injEq] at h
      exact absurd h.2 he
theorem ofS_ok : ∀ (l : List Sm) (s : St), s.Ok → (∀ x ∈ l, x.2 < 18446744073709551616) → (ofS s l).1.Ok
  | [], s, h, _ => h
  | x :: l, s, h, hx => by
    rw [ofS]
    split
    · next he => exact ofS_ok l _ (h.put he (hx x (by simp))) (fun y hy => hx y (by simp [hy]))
    · exact h

theorem restR_of {L rest : List Bool} {y : Ey} {s : St} {x : Sm} (hy : Sync y s) (hs : s.Ok) (he : err s x = 0) (hn : 0 < s.n) (hx : x.2 < 18446744073709551616)
    (h : L.drop y.p = timeB (fold (x.1 - s.t - s.step)) ++ (valB s.lead s.wide (x.2 ^^^ s.v) ++ rest)) :
    restR L y = (x, 0, ⟨y.p + (timeB (fold (x.1 - s.t - s.step))).length + (valB s.lead s.wide (x.2 ^^^ s.v)).length, 0, y.t, y.v, x.1 - s.t, valL s.lead s.wide (x.2 ^^^ s.v), valW s.lead s.wide (x.2 ^^^ s.v)⟩) := by
  obtain ⟨e1, e2, e3, e4⟩ := err_zero he
  obtain ⟨k0, k1, k2, k3, k4, k5⟩ := hy
  obtain ⟨p, e, t, v, st, ld, wi⟩ := y
  simp only at k0 k1 k2 k3 k4 k5 h
  subst k0; subst k1; subst k2; subst k3; subst k4; subst k5
  have hxx := xor_lt hx hs.v
  have h1 := timeR_of (L := L) (y := ⟨p, 0, s.t, s.v, s.step, s.lead, s.wide⟩) (x := x.1) (rest := valB s.lead s.wide (x.2 ^^^ s.v) ++ rest) rfl hs.t hs.step ⟨e1, e2⟩ h
  have h2 : L.drop (p + (timeB (fold (x.1 - s.t - s.step))).length) = valB s.lead s.wide (x.2 ^^^ s.v) ++ rest := by
    rw [← List.drop_drop, h, List.drop_left]
  have h3 := valR_of (L := L) (rest := rest) (y := ⟨p + (timeB (fold (x.1 - s.t - s.step))).length, 0, s.t, s.v, x.1 - s.t, s.lead, s.wide⟩) (x := x.2 ^^^ s.v) rfl hs.win hxx h2
  simp only at h1 h3
  unfold restR
  rw [h1]
  simp only
  rw [h3]
  simp only
  have hv : s.v ^^^ (x.2 ^^^ s.v) = x.2 := by
    rw [Nat.xor_comm x.2 s.v, ← Nat.xor_assoc, Nat.xor_self, Nat.zero_xor]
  rw [if_neg (by omega), hv, if_neg (fun hh => by have := e3 hn; omega)]
theorem loopR_of (L : List Bool) : ∀ (l : List Sm) (s s' : St) (y : Ey) (acc : List Sm) (rest : List Bool), Sync y s → s.Ok → (∀ x ∈ l, x.2 < 18446744073709551616) → ofS s l = (s', 0) → L.drop y.p = more s l ++ rest →
    loopR L l.length s.n y acc = (acc ++ l, 0)
  | [], s, s', y, acc, rest, _, _, _, _, _ => by simp [loopR]
  | x :: l, s, s', y, acc, rest, hy, hs, hx, ho, hd => by
    rw [ofS] at ho
    by_cases he : err s x = 0
    · rw [if_pos he] at ho
      obtain ⟨e1, e2, e3, e4⟩ := err_zero he
      have hx0 := hx x (by simp)
      rw [more, List.append_assoc] at hd
      obtain ⟨pn, pt, pv⟩ := put_n s x
      have ih := fun y' h1 h3 => loopR_of L l (s.put x) s' y' (acc ++ [x]) rest h1 (hs.put he hx0) (fun z hz => hx z (by simp [hz])) ho h3
      rw [pn] at ih
      rw [List.length_cons, loopR]
      have hne : ∃ y', nextR L y (s.n == 0) = (x, 0, y') ∧ Sync { y' with t := x.1, v := x.2 } (s.put x) ∧ L.drop y'.p = more (s.put x) l ++ rest := by
        unfold nextR
        unfold inc at hd
        by_cases h0 : s.n = 0
        · rw [if_pos h0, List.append_assoc] at hd
          rw [if_pos (by simp [h0])]
          refine ⟨_, firstR_of hy.e e1 e2 hx0 hd, ⟨rfl, pt.symm, pv.symm, ?_, ?_, ?_⟩, ?_⟩
          · unfold St.put; rw [if_pos h0]; exact hy.step
          · unfold St.put; rw [if_pos h0]; exact hy.lead
          · unfold St.put; rw [if_pos h0]; exact hy.wide
          · show L.drop (y.p + 105) = _
            rw [show y.p + 105 = y.p + 41 + 64 by omega, ← List.drop_drop, ← List.drop_drop, hd, List.drop_left' (bitsOf_length _ _), List.drop_left' (bitsOf_length _ _)]
        · rw [if_neg h0, List.append_assoc] at hd
          rw [if_neg (by simp [h0])]
          refine ⟨_, restR_of hy hs he (by omega) hx0 hd, ⟨rfl, pt.symm, pv.symm, ?_, ?_, ?_⟩, ?_⟩
          · unfold St.put; rw [if_neg h0]
          · unfold St.put; rw [if_neg h0]
          · unfold St.put; rw [if_neg h0]
          · show L.drop (y.p + _ + _) = _
            rw [← List.drop_drop, ← List.drop_drop, hd, List.drop_left, List.drop_left]
      obtain ⟨y', hn1, hn2, hn3⟩ := hne
      rw [hn1]
      simp only
      rw [if_neg (by omega), if_neg (by omega), ih _ hn2 hn3, List.append_assoc]
      rfl
    · rw [if_neg he] at ho
      simp only [Prod.mk.injEq] at ho
      exact absurd ho.2 he

def bodyR (w : List UInt8) (n : Nat) (rest : List UInt8) (m : Nat) : List Sm × Nat :=
  if (loopR ((unpack rest).take m) n 0 Ey.zero []).2 ≠ 0 then ([], (loopR ((unpack rest).take m) n 0 Ey.zero []).2)
  else if (ofS St.zero (loopR ((unpack rest).take m) n 0 Ey.zero []).1).2 ≠ 0 ∨ text (ofS St.zero (loopR ((unpack rest).take m) n 0 Ey.zero []).1).1 ≠ w then ([], 3)
  else ((loopR ((unpack rest).take m) n 0 Ey.zero []).1, 0)
def samplesR (w : List UInt8) : List Sm × Nat :=
  if (takeMost w 120).2.2 ≠ 0 then ([], (takeMost w 120).2.2)
  else if (takeMost (takeMost w 120).2.1 1048576).2.2 ≠ 0 then ([], (takeMost (takeMost w 120).2.1 1048576).2.2)
  else if (takeMost (takeMost w 120).2.1 1048576).2.1.length ≠ ((takeMost (takeMost w 120).2.1 1048576).1 + 7) / 8 then ([], 3)
  else bodyR w (takeMost w 120).1 (takeMost (takeMost w 120).2.1 1048576).2.1 (takeMost (takeMost w 120).2.1 1048576).1

theorem samplesR_of {l : List Sm} {s : St} (h : ofS St.zero l = (s, 0)) (hx : ∀ x ∈ l, x.2 < 18446744073709551616) : samplesR (text s) = (l, 0) := by
  have hok : s.Ok := by
    have := ofS_ok l St.zero St.zero_ok hx
    rw [h] at this
    exact this
  obtain ⟨hb, hn⟩ := ofS_more l _ _ h
  have hn' : s.n = l.length := by rw [hn]; show 0 + l.length = _; omega
  have hb' : s.bits = more St.zero l := by rw [hb]; rfl
  have h1 := hok.n
  have h2 := hok.len
  unfold samplesR text
  rw [takeMost_u s.n _ 120 (by omega) (by omega)]
  simp only
  rw [if_neg (by omega), takeMost_u s.bits.length _ 1048576 (by omega) (by omega)]
  simp only
  rw [if_neg (by omega), pack_length, if_neg (by omega)]
  have hl := loopR_of s.bits l St.zero s Ey.zero [] [] ⟨rfl, rfl, rfl, rfl, rfl, rfl⟩ St.zero_ok hx h (by rw [List.append_nil]; exact hb')
  have hl' : loopR ((unpack (pack s.bits)).take s.bits.length) s.n 0 Ey.zero [] = (l, 0) := by
    rw [unpack_pack_take, hn']; exact hl
  unfold bodyR
  rw [hl']
  simp only
  rw [if_neg (by omega), h]
  simp only
  rw [if_neg (fun hh => by rcases hh with hh | hh; exact hh rfl; exact hh rfl)]

theorem eyeBit_e (L : List Bool) (p e : Nat) (h : e = 0 ∨ e = 2) : (eyeBit L p e).2.2 = 0 ∨ (eyeBit L p e).2.2 = 2 := by
  unfold eyeBit; split
  · exact h
  · split <;> simp
theorem eyeBits_e (L : List Bool) (p e : Nat) (n : Int) (h : e = 0 ∨ e = 2) : (eyeBits L p e n).2.2 = 0 ∨ (eyeBits L p e n).2.2 = 2 := by
  unfold eyeBits; split
  · exact h
  · split <;> simp
theorem eyeUnary_e (L : List Bool) (p e : Nat) (n : Int) (h : e = 0 ∨ e = 2) : (eyeUnary L p e n).2.2 = 0 ∨ (eyeUnary L p e n).2.2 = 2 := by
  unfold eyeUnary; split
  · exact h
  · split
    · simp
    · split <;> simp
theorem eyeBits_lt (L : List Bool) (p e : Nat) (n : Int) : (eyeBits L p e n).1 < 2 ^ clip n := by
  have h0 : 0 < 2 ^ clip n := Nat.two_pow_pos _
  unfold eyeBits; split
  · exact h0
  · split
    · exact h0
    · next h1 h2 => exact num_lt _ _ (by rw [List.length_take, List.length_drop]; omega)
structure Ey.Ok (y : Ey) : Prop where
  e : y.e = 0 ∨ y.e = 2
  v : y.v < 18446744073709551616
  lead : y.lead < 64
  wide : y.wide ≤ 64
theorem timeR_ok (L : List Bool) {y : Ey} (h : y.Ok) : (timeR L y).2.Ok :=
  ⟨eyeBits_e _ _ _ _ (eyeUnary_e _ _ _ _ h.e), h.v, h.lead, h.wide⟩
theorem shl_lt {a lead wide : Nat} (h : a < 2 ^ wide) (hw : lead + wide ≤ 64) : a * 2 ^ (64 - lead - wide) < 18446744073709551616 := by
  have h1 : a * 2 ^ (64 - lead - wide) < 2 ^ wide * 2 ^ (64 - lead - wide) := Nat.mul_lt_mul_of_pos_right h (Nat.two_pow_pos _)
  rw [← Nat.pow_add] at h1
  have h2 : 2 ^ (wide + (64 - lead - wide)) ≤ 2 ^ 64 := Nat.pow_le_pow_right (by omega) (by omega)
  omega
theorem inR_ok (L : List Bool) {y : Ey} (h : y.Ok) : (inR L y).2.2.Ok ∧ (inR L y).1 < 18446744073709551616 ∧ ((inR L y).2.1 = 0 ∨ (inR L y).2.1 = 3) := by
  unfold inR
  split
  · exact ⟨h, by show 0 < _; omega, .inr rfl⟩
  · next hw =>
    refine ⟨⟨eyeBits_e _ _ _ _ h.e, h.v, h.lead, h.wide⟩, ?_, .inl rfl⟩
    have := eyeBits_lt L y.p y.e (y.wide : Nat)
    rw [clip_nat _ h.wide] at this
    exact xor_lt h.v (shl_lt this (by omega))
theorem valR_ok (L : List Bool) {y : Ey} (h : y.Ok) : (valR L y).2.2.Ok ∧ (valR L y).1 < 18446744073709551616 ∧ ((valR L y).2.1 = 0 ∨ (valR L y).2.1 = 3) := by
  unfold valR
  split
  · exact ⟨⟨eyeBit_e _ _ _ h.e, h.v, h.lead, h.wide⟩, h.v, .inl rfl⟩
  · split
    · refine inR_ok L ⟨eyeBits_e _ _ _ _ (eyeBits_e _ _ _ _ (eyeBit_e _ _ _ (eyeBit_e _ _ _ h.e))), h.v, ?_, ?_⟩
      · exact eyeBits_lt L _ _ 6
      · have := eyeBits_lt L (eyeBits L (eyeBit L (eyeBit L y.p y.e).2.1 (eyeBit L y.p y.e).2.2).2.1 (eyeBit L (eyeBit L y.p y.e).2.1 (eyeBit L y.p y.e).2.2).2.2 6).2.1 (eyeBits L (eyeBit L (eyeBit L y.p y.e).2.1 (eyeBit L y.p y.e).2.2).2.1 (eyeBit L (eyeBit L y.p y.e).2.1 (eyeBit L y.p y.e).2.2).2.2 6).2.2 6
        rw [show (2 : Nat) ^ clip 6 = 64 from rfl] at this
        exact this
    · exact inR_ok L ⟨eyeBit_e _ _ _ (eyeBit_e _ _ _ h.e), h.v, h.lead, h.wide⟩
theorem nextR_ok (L : List Bool) {y : Ey} (h : y.Ok) (f : Bool) : (nextR L y f).2.2.Ok ∧ (nextR L y f).1.2 < 18446744073709551616 ∧ ((nextR L y f).2.1 = 0 ∨ (nextR L y f).2.1 = 2 ∨ (nextR L y f).2.1 = 3) := by
  unfold nextR
  split
  · have h1 := eyeBits_e L (eyeBits L y.p y.e 41).2.1 (eyeBits L y.p y.e 41).2.2 64 (eyeBits_e L y.p y.e 41 h.e)
    exact ⟨⟨h1, h.v, h.lead, h.wide⟩, eyeBits_lt L _ _ 64, h1.elim .inl (fun h => .inr (.inl h))⟩
  · obtain ⟨h1, h2, h3⟩ := valR_ok L (timeR_ok L h)
    unfold restR
    split
    · next he => exact ⟨h1, by show 0 < _; omega, .inr (.inl (h1.e.resolve_left he))⟩
    · refine ⟨h1, h2, ?_⟩
      split
      · exact .inr (.inr rfl)
      · exact h3.elim .inl (fun h => .inr (.inr h))
theorem loopR_ok (L : List Bool) : ∀ (k i : Nat) (y : Ey) (acc : List Sm), y.Ok → (∀ x ∈ acc, x.2 < 18446744073709551616) → (∀ x ∈ (loopR L k i y acc).1, x.2 < 18446744073709551616) ∧ ((loopR L k i y acc).2 = 0 ∨ (loopR L k i y acc).2 = 2 ∨ (loopR L k i y acc).2 = 3) ∧
    ((loopR L k i y acc).2 = 0 → (loopR L k i y acc).1.length = acc.length + k)
  | 0, _, _, acc, _, ha => ⟨ha, .inl rfl, fun _ => rfl⟩
  | k + 1, i, y, acc, hy, ha => by
    obtain ⟨h1, h2, h3⟩ := nextR_ok L hy (i == 0)
    rw [loopR]
    split
    · next he => exact ⟨by simp, h3, fun h => absurd h he⟩
    · split
      · exact ⟨by simp, .inr (.inr rfl), fun h => absurd h (by decide)⟩
      · obtain ⟨g1, g2, g3⟩ := loopR_ok L k (i + 1) { (nextR L y (i == 0)).2.2 with t := (nextR L y (i == 0)).1.1, v := (nextR L y (i == 0)).1.2 } (acc ++ [(nextR L y (i == 0)).1]) ⟨h1.e, h2, h1.lead, h1.wide⟩ (by
          intro x hx
          rw [List.mem_append, List.mem_singleton] at hx
          rcases hx with hx | rfl
          · exact ha x hx
          · exact h2)
        refine ⟨g1, g2, fun h => ?_⟩
        rw [g3 h, List.length_append]
        simp; omega
theorem Ey.zero_ok : Ey.zero.Ok := ⟨.inl rfl, by decide, by decide, by decide⟩
theorem bodyR_prop (w : List UInt8) (n : Nat) (rest : List UInt8) (m : Nat) :
    ((bodyR w n rest m).2 = 0 ∧ (ofS St.zero (bodyR w n rest m).1).2 = 0 ∧ text (ofS St.zero (bodyR w n rest m).1).1 = w ∧ ∀ x ∈ (bodyR w n rest m).1, x.2 < 18446744073709551616) ∨ ((bodyR w n rest m).1 = [] ∧ ((bodyR w n rest m).2 = 2 ∨ (bodyR w n rest m).2 = 3)) := by
  obtain ⟨h1, h2, h3⟩ := loopR_ok ((unpack rest).take m) n 0 Ey.zero [] Ey.zero_ok (by simp)
  unfold bodyR
  split
  · next he => exact .inr ⟨rfl, by rcases h2 with h | h | h; exact absurd h he; exact .inl h; exact .inr h⟩
  · split
    · exact .inr ⟨rfl, .inr rfl⟩
    · next hh => exact .inl ⟨rfl, by simp only [ne_eq, not_or, Decidable.not_not] at hh; exact hh.1, by simp only [ne_eq, not_or, Decidable.not_not] at hh; exact hh.2, h1⟩
theorem takeMost_e (l : List UInt8) (most : Int) : (takeMost l most).2.2 = 0 ∨ (takeMost l most).2.2 = 2 ∨ (takeMost l most).2.2 = 3 ∨ (takeMost l most).2.2 = 16 := by
  obtain ⟨_, _, h3⟩ := takeU_prop l
  unfold takeMost
  split
  · exact .inr (.inr (.inr rfl))
  · omega
theorem samplesR_prop (w : List UInt8) :
    ((samplesR w).2 = 0 ∧ (ofS St.zero (samplesR w).1).2 = 0 ∧ text (ofS St.zero (samplesR w).1).1 = w ∧ ∀ x ∈ (samplesR w).1, x.2 < 18446744073709551616) ∨ ((samplesR w).1 = [] ∧ ((samplesR w).2 = 2 ∨ (samplesR w).2 = 3 ∨ (samplesR w).2 = 16)) := by
  have h1 := takeMost_e w 120
  have h2 := takeMost_e (takeMost w 120).2.1 1048576
  unfold samplesR
  split
  · next he => exact .inr ⟨rfl, by omega⟩
  · split
    · next he => exact .inr ⟨rfl, by omega⟩
    · split
      · exact .inr ⟨rfl, .inr (.inl rfl)⟩
      · rcases bodyR_prop w (takeMost w 120).1 (takeMost (takeMost w 120).2.1 1048576).2.1 (takeMost (takeMost w 120).2.1 1048576).1 with h | ⟨h, h' | h'⟩
        · exact .inl h
        · exact .inr ⟨h, .inl h'⟩
        · exact .inr ⟨h, .inr (.inl h')⟩

end Go.Bar.Xor
