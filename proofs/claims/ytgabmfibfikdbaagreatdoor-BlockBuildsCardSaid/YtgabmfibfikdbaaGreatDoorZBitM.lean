/-
 Plain mathematics of layer 3 (rows of bits): no program in sight; no condition.
-/
import Derived.Test.YtgabmfibfikdbaaGreatDoorZLib1

namespace Go.Bar.Bit
open Go.RowKit Go.Bar

def byte8 (a b c d e f g h : Bool) : UInt8 :=
 (if a then 128 else 0) + (if b then 64 else 0) + (if c then 32 else 0) + (if d then 16 else 0) + (if e then 8 else 0) + (if f then 4 else 0) + (if g then 2 else 0) + (if h then 1 else 0)
def byteAt (l : List Bool) (i : Nat) : UInt8 :=
 byte8 (l.getD (8 * i) false) (l.getD (8 * i + 1) false) (l.getD (8 * i + 2) false) (l.getD (8 * i + 3) false) (l.getD (8 * i + 4) false) (l.getD (8 * i + 5) false) (l.getD (8 * i + 6) false) (l.getD (8 * i + 7) false)
def pack (l : List Bool) : List UInt8 := (List.range ((l.length + 7) / 8)).map (byteAt l)
theorem pack_length (l : List Bool) : (pack l).length = (l.length + 7) / 8 := by simp [pack]
theorem pack_get (l : List Bool) (i : Nat) (h : i < (l.length + 7) / 8) : (pack l)[i]? = some (byteAt l i) := by simp [pack, h]

def bitOf (x : UInt8) (k : Nat) : Bool := x.toNat / 2 ^ (7 - k) % 2 == 1

theorem byte8_bits : ∀ a b c d e f g h : Bool, bitOf (byte8 a b c d e f g h) 0 = a /\ bitOf (byte8 a b c d e f g h) 1 = b /\ bitOf (byte8 a b c d e f g h) 2 = c /\ bitOf (byte8 a b c d e f g h) 3 = d /\
  bitOf (byte8 a b c d e f g h) 4 = e /\ bitOf (byte8 a b c d e f g h) 5 = f /\ bitOf (byte8 a b c d e f g h) 6 = g /\ bitOf (byte8 a b c d e f g h) 7 = h := by decide

theorem byte8_or : ∀ a b c d e f g h : Bool,
  (byte8 a b c d e f g h).toNat ||| 128 = (byte8 true b c d e f g h).toNat /\ (byte8 a b c d e f g h).toNat ||| 64 = (byte8 a true c d e f g h).toNat /\
  (byte8 a b c d e f g h).toNat ||| 32 = (byte8 a b true d e f g h).toNat /\ (byte8 a b c d e f g h).toNat ||| 16 = (byte8 a b c true e f g h).toNat /\
  (byte8 a b c d e f g h).toNat ||| 8 = (byte8 a b c d true f g h).toNat /\ (byte8 a b c d e f g h).toNat ||| 4 = (byte8 a b c d e true g h).toNat /\
  (byte8 a b c d e f g h).toNat ||| 2 = (byte8 a b c d e f true h).toNat /\ (byte8 a b c d e f g h).toNat ||| 1 = (byte8 a b c d e f g true).toNat := by decide

theorem getD_snoc (l : List Bool) (x : Bool) (i : Nat) : (l ++ [x]).getD i false = if i = l.length then x else l.getD i false := by
 simp only [List.getD, List.getElem?_append]
 by_cases h : i < l.length
 ·rw [if_pos h, if_neg (by omega)]
 ·rw [if_neg h]
  by_cases h2 : i = l.length
  ·subst h2; simp
  ·rw [if_neg h2, List.getElem?_eq_none (by simp; omega), List.getElem?_eq_none (by omega)]

theorem byteAt_snoc_far (l : List Bool) (x : Bool) (i : Nat) (h : i ≠ l.length / 8) : byteAt (l ++ [x]) i = byteAt l i := by
 unfold byteAt
 simp only [getD_snoc]
 rw [if_neg (by omega), if_neg (by omega), if_neg (by omega), if_neg (by omega), if_neg (by omega), if_neg (by omega), if_neg (by omega), if_neg (by omega)]
theorem byteAt_snoc_false (l : List Bool) (i : Nat) : byteAt (l ++ [false]) i = byteAt l i := by
 unfold byteAt
 simp only [getD_snoc]
 have : ∀ j, (if j = l.length then false else l.getD j false) = l.getD j false := by
  intro j
  split
  ·rename_i h; subst h; simp [List.getD]
  ·rfl
 simp only [this]
theorem byteAt_over (l : List Bool) (i : Nat) (h : l.length <= 8 * i) : byteAt l i = 0 := by
 unfold byteAt
 have : ∀ j, 8 * i <= j -> l.getD j false = false := fun j hj => by simp [List.getD, List.getElem?_eq_none (show l.length <= j by omega)]
 rw [this _ (by omega), this _ (by omega), this _ (by omega), this _ (by omega), this _ (by omega), this _ (by omega), this _ (by omega), this _ (by omega)]
 rfl
theorem byteAt_snoc_true (l : List Bool) : (byteAt l (l.length / 8)).toNat ||| 2 ^ (7 - l.length % 8) = (byteAt (l ++ [true]) (l.length / 8)).toNat := by
 unfold byteAt
 simp only [getD_snoc]
 have hb := byte8_or (l.getD (8 * (l.length / 8)) false) (l.getD (8 * (l.length / 8) + 1) false) (l.getD (8 * (l.length / 8) + 2) false) (l.getD (8 * (l.length / 8) + 3) false) (l.getD (8 * (l.length / 8) + 4) false) (l.getD (8 * (l.length / 8) + 5) false) (l.getD (8 * (l.length / 8) + 6) false) (l.getD (8 * (l.length / 8) + 7) false)
 obtain ⟨h0, h1, h2, h3, h4, h5, h6, h7⟩ := hb
 have hm : l.length % 8 < 8 := Nat.mod_lt _ (by omega)
 have hd : 8 * (l.length / 8) + l.length % 8 = l.length := by omega
 rcases (show l.length % 8 = 0 \/ l.length % 8 = 1 \/ l.length % 8 = 2 \/ l.length % 8 = 3 \/ l.length % 8 = 4 \/ l.length % 8 = 5 \/ l.length % 8 = 6 \/ l.length % 8 = 7 by omega) with h | h | h | h | h | h | h | h <;> rw [h] at hd ⊢
 ·rw [if_pos (by omega), if_neg (by omega), if_neg (by omega), if_neg (by omega), if_neg (by omega), if_neg (by omega), if_neg (by omega), if_neg (by omega)]; exact h0
 ·rw [if_neg (by omega), if_pos (by omega), if_neg (by omega), if_neg (by omega), if_neg (by omega), if_neg (by omega), if_neg (by omega), if_neg (by omega)]; exact h1
 ·rw [if_neg (by omega), if_neg (by omega), if_pos (by omega), if_neg (by omega), if_neg (by omega), if_neg (by omega), if_neg (by omega), if_neg (by omega)]; exact h2
 ·rw [if_neg (by omega), if_neg (by omega), if_neg (by omega), if_pos (by omega), if_neg (by omega), if_neg (by omega), if_neg (by omega), if_neg (by omega)]; exact h3
 ·rw [if_neg (by omega), if_neg (by omega), if_neg (by omega), if_neg (by omega), if_pos (by omega), if_neg (by omega), if_neg (by omega), if_neg (by omega)]; exact h4
 ·rw [if_neg (by omega), if_neg (by omega), if_neg (by omega), if_neg (by omega), if_neg (by omega), if_pos (by omega), if_neg (by omega), if_neg (by omega)]; exact h5
 ·rw [if_neg (by omega), if_neg (by omega), if_neg (by omega), if_neg (by omega), if_neg (by omega), if_neg (by omega), if_pos (by omega), if_neg (by omega)]; exact h6
 ·rw [if_neg (by omega), if_neg (by omega), if_neg (by omega), if_neg (by omega), if_neg (by omega), if_neg (by omega), if_neg (by omega), if_pos (by omega)]; exact h7

def grown (l : List Bool) : List UInt8 := if l.length % 8 = 0 then pack l ++ [0] else pack l
theorem grown_eq (l : List Bool) : grown l = pack (l ++ [false]) := by
 unfold grown
 apply List.ext_getElem?
 intro i
 by_cases h : l.length % 8 = 0
 ·rw [if_pos h]
  by_cases hi : i < (l.length + 7) / 8
  ·rw [List.getElem?_append_left (by rw [pack_length]; exact hi), pack_get l i hi, pack_get _ i (by rw [List.length_append]; simp; omega), byteAt_snoc_false]
  ·by_cases hi2 : i = (l.length + 7) / 8
   ·rw [List.getElem?_append_right (by rw [pack_length]; omega), pack_length, pack_get _ i (by rw [List.length_append]; simp; omega), byteAt_snoc_false, byteAt_over l i (by omega), hi2]
    simp
   ·rw [List.getElem?_eq_none (by rw [List.length_append, pack_length]; simp; omega), List.getElem?_eq_none (by rw [pack_length, List.length_append]; simp; omega)]
 ·rw [if_neg h]
  by_cases hi : i < (l.length + 7) / 8
  ·rw [pack_get l i hi, pack_get _ i (by rw [List.length_append]; simp; omega), byteAt_snoc_false]
  ·rw [List.getElem?_eq_none (by rw [pack_length]; omega), List.getElem?_eq_none (by rw [pack_length, List.length_append]; simp; omega)]
theorem grown_length (l : List Bool) : (grown l).length = l.length / 8 + 1 := by rw [grown_eq, pack_length, List.length_append]; simp; omega
theorem grown_last (l : List Bool) : (grown l)[l.length / 8]? = some (byteAt l (l.length / 8)) := by
 rw [grown_eq, pack_get _ _ (by rw [List.length_append]; simp; omega), byteAt_snoc_false]
theorem grown_set (l : List Bool) (x : UInt8) (hx : x.toNat = (byteAt l (l.length / 8)).toNat ||| 2 ^ (7 - l.length % 8)) : (grown l).set (l.length / 8) x = pack (l ++ [true]) := by
 rw [byteAt_snoc_true] at hx
 have hx : x = byteAt (l ++ [true]) (l.length / 8) := UInt8.toNat_inj.1 hx
 subst hx
 apply List.ext_getElem?
 intro i
 by_cases hi : i = l.length / 8
 ·subst hi
  rw [List.getElem?_set_self (by rw [grown_length]; omega), pack_get _ _ (by rw [List.length_append]; simp; omega)]
 ·rw [List.getElem?_set_ne (fun e => hi e.symm), grown_eq]
  by_cases hi2 : i < (l.length + 1 + 7) / 8
  ·rw [pack_get _ i (by rw [List.length_append]; simpa using hi2), pack_get _ i (by rw [List.length_append]; simpa using hi2), byteAt_snoc_far _ _ _ hi, byteAt_snoc_far _ _ _ hi]
  ·rw [List.getElem?_eq_none (by rw [pack_length, List.length_append]; simp; omega), List.getElem?_eq_none (by rw [pack_length, List.length_append]; simp; omega)]

def bitsOf (v : Nat) : Nat -> List Bool
 | 0 => []
 | n + 1 => (v / 2 ^ n % 2 == 1) :: bitsOf v n
theorem bitsOf_length (v : Nat) : ∀ n, (bitsOf v n).length = n
 | 0 => rfl
 | n + 1 => by rw [bitsOf, List.length_cons, bitsOf_length]
def clip (n : Int) : Nat := (min (max n 0) 64).toNat
theorem clip_le (n : Int) : clip n <= 64 := by unfold clip; omega
def ones (n most : Int) : Nat := (min (max n 0) (max most 0)).toNat
def unary (n most : Int) : List Bool := List.replicate (ones n most) true ++ if (ones n most : Int) < most then [false] else []

theorem bit_and (u j : Nat) (hu : u < 18446744073709551616) : (bits .and .u64 ((u : Int) / 2 ^ j) 1 == 1) = (u / 2 ^ j % 2 == 1) := by
 have e1 : (u : Int) / 2 ^ j = ((u / 2 ^ j : Nat) : Int) := by simp
 have hle : u / 2 ^ j <= u := Nat.div_le_self _ _
 have := u64_and_nat (u / 2 ^ j) 1 (by omega) (by omega)
 rw [nat_mask1] at this
 rw [e1, show (1 : Int) = ((1 : Nat) : Int) from rfl, this, Bool.eq_iff_iff, beq_iff_eq, beq_iff_eq]
 omega

def width (v : Nat) : Nat := if v = 0 then 0 else width (v / 2) + 1
 termination_by v
 decreasing_by omega
theorem width_zero : width 0 = 0 := by rw [width, if_pos rfl]
theorem width_pos (v : Nat) (h : 0 < v) : width v = width (v / 2) + 1 := by rw [width, if_neg (by omega)]
theorem width_lt : ∀ (n v : Nat), v < 2 ^ n -> width v <= n
 | 0, v, h => by rw [show v = 0 by simpa using h, width_zero]; exact Nat.le_refl _
 | n + 1, v, h => by
  rcases Nat.eq_zero_or_pos v with h0 | h0
  ·rw [h0, width_zero]; omega
  ·rw [width_pos v h0]
   have := width_lt n (v / 2) (by rw [Nat.pow_succ] at h; omega)
   omega
theorem width_le (v : Nat) (h : v < 18446744073709551616) : width v <= 64 := width_lt 64 v (by simpa using h)
theorem width_spec : ∀ v : Nat, v < 2 ^ width v /\ (0 < v -> 2 ^ (width v - 1) <= v) := by
 intro v
 induction v using Nat.strongRecOn with
 | _ v ih =>
  rcases Nat.eq_zero_or_pos v with h0 | h0
  ·subst h0; rw [width_zero]; simp
  ·obtain ⟨h1, h2⟩ := ih (v / 2) (by omega)
   rw [width_pos v h0]
   refine ⟨by rw [Nat.pow_succ]; omega, fun _ => ?_⟩
   rw [Nat.add_sub_cancel]
   rcases Nat.eq_zero_or_pos (v / 2) with h3 | h3
   ·rw [h3, width_zero]; simp; omega
   ·have h4 := h2 h3
    have h5 : width (v / 2) = (width (v / 2) - 1) + 1 := by rw [width_pos _ h3]; omega
    rw [h5, Nat.pow_succ]
    omega

def vb (l : List Bool) (i : Nat) : Nat -> Nat
 | 0 => 0
 | j + 1 => 2 * vb l i j + (if l.getD (i + j) false then 1 else 0)
theorem vb_lt (l : List Bool) (i : Nat) : ∀ j, vb l i j < 2 ^ j
 | 0 => by simp [vb]
 | j + 1 => by
  have := vb_lt l i j
  rw [vb, Nat.pow_succ]
  split <;> omega
theorem byte8_val : ∀ a b c d e f g h : Bool, (byte8 a b c d e f g h).toNat =
  2 * (2 * (2 * (2 * (2 * (2 * (2 * (2 * 0 + (if a then 1 else 0)) + (if b then 1 else 0)) + (if c then 1 else 0)) + (if d then 1 else 0)) + (if e then 1 else 0)) + (if f then 1 else 0)) + (if g then 1 else 0)) + (if h then 1 else 0) := by decide
theorem vb_byte (l : List Bool) (q : Nat) : vb l (8 * q) 8 = (byteAt l q).toNat := by
 unfold byteAt
 rw [byte8_val]
 rfl
theorem pack_take (l : List Bool) (q : Nat) (h : q < (l.length + 7) / 8) : (pack l).take q ++ [byteAt l q] = (pack l).take (q + 1) := by
 rw [List.take_add_one, pack_get l q h]
 rfl

def unbyte (x : UInt8) : List Bool := [bitOf x 0, bitOf x 1, bitOf x 2, bitOf x 3, bitOf x 4, bitOf x 5, bitOf x 6, bitOf x 7]
def unpack (s : List UInt8) : List Bool := s.flatMap unbyte
theorem unpack_cons (x : UInt8) (s : List UInt8) : unpack (x :: s) = unbyte x ++ unpack s := rfl
theorem unpack_length : ∀ s : List UInt8, (unpack s).length = 8 * s.length
 | [] => rfl
 | x :: s => by rw [unpack_cons, List.length_append, unpack_length s]; simp [unbyte]; omega
theorem unbyte_get (x : UInt8) (k : Nat) (h : k < 8) : (unbyte x)[k]? = some (bitOf x k) := by
 rcases (show k = 0 \/ k = 1 \/ k = 2 \/ k = 3 \/ k = 4 \/ k = 5 \/ k = 6 \/ k = 7 by omega) with h | h | h | h | h | h | h | h <;> subst h <;> rfl
theorem unpack_get : ∀ (s : List UInt8) (i : Nat), i < 8 * s.length -> (unpack s)[i]? = some (bitOf (s.getD (i / 8) 0) (i % 8))
 | [], i, h => by simp at h
 | x :: s, i, h => by
  rw [unpack_cons]
  have hl : (unbyte x).length = 8 := rfl
  by_cases h8 : i < 8
  ·rw [List.getElem?_append_left (by omega), unbyte_get x i h8, show i / 8 = 0 by omega, show i % 8 = i by omega]
   rfl
  ·rw [List.getElem?_append_right (by omega), hl, unpack_get s (i - 8) (by rw [List.length_cons] at h; omega)]
   rw [show i / 8 = (i - 8) / 8 + 1 by omega, show (i - 8) % 8 = i % 8 by omega]
   simp [List.getD]
theorem bit_shl (x : UInt8) (k : Nat) (h : k < 8) : (bits .and .u8 ((x.toNat : Int) * 2 ^ k % 256) 128 != 0) = bitOf x k := by
 have hx := UInt8.toNat_lt x
 have e1 : (x.toNat : Int) * 2 ^ k % 256 = ((x.toNat * 2 ^ k % 256 : Nat) : Int) := by simp
 rw [e1]
 have := u8_and_nat (x.toNat * 2 ^ k % 256) 128 (by omega) (by omega)
 rw [show (128 : Int) = ((128 : Nat) : Int) from rfl, this, nat_bit 7 (x.toNat * 2 ^ k % 256)]
 unfold bitOf
 rw [Bool.eq_iff_iff, bne_iff_ne, beq_iff_eq]
 rcases (show k = 0 \/ k = 1 \/ k = 2 \/ k = 3 \/ k = 4 \/ k = 5 \/ k = 6 \/ k = 7 by omega) with h | h | h | h | h | h | h | h <;> subst h <;> omega

def eyeBit (L : List Bool) (p e : Nat) : Bool × Nat × Nat := if e ≠ 0 then (false, p, e) else if p < L.length then (L.getD p false, p + 1, 0) else (false, p, 2)
def num (l : List Bool) : Nat := l.foldl (fun v b => 2 * v + (if b then 1 else 0)) 0
theorem num_snoc (l : List Bool) (b : Bool) : num (l ++ [b]) = 2 * num l + (if b then 1 else 0) := by simp [num, List.foldl_append]
theorem num_lt : ∀ (n : Nat) (l : List Bool), l.length = n -> num l < 2 ^ n
 | 0, l, h => by rw [List.eq_nil_of_length_eq_zero h]; simp [num]
 | n + 1, l, h => by
  have hne : l ≠ [] := by intro e; subst e; simp at h
  rw [<- List.dropLast_concat_getLast hne, num_snoc]
  have := num_lt n l.dropLast (by rw [List.length_dropLast]; omega)
  rw [Nat.pow_succ]
  split <;> omega
def eyeBits (L : List Bool) (p e : Nat) (n : Int) : Nat × Nat × Nat :=
 if e ≠ 0 then (0, p, e) else if L.length - p < clip n then (0, p, 2) else (num ((L.drop p).take (clip n)), p + clip n, 0)
def run (L : List Bool) (p : Nat) : Nat -> Nat
 | 0 => 0
 | m + 1 => if L.getD p false then run L (p + 1) m + 1 else 0
theorem run_le (L : List Bool) : ∀ (m p : Nat), run L p m <= m
 | 0, _ => Nat.le_refl _
 | m + 1, p => by rw [run]; split; have := run_le L m (p + 1); omega; omega
def eyeUnary (L : List Bool) (p e : Nat) (most : Int) : Nat × Nat × Nat :=
 if e ≠ 0 then (0, p, e)
 else if run L p most.toNat = most.toNat then (most.toNat, p + most.toNat, 0)
 else if p + run L p most.toNat < L.length then (run L p most.toNat, p + run L p most.toNat + 1, 0)
 else (0, p + run L p most.toNat, 2)

theorem or_one (x : Nat) (h : x < 9223372036854775808) (y : Int) (hy : y = ((2 * x : Nat) : Int)) : bits .or .u64 y 1 = ((2 * x + 1 : Nat) : Int) := by
 subst hy
 have := u64_or_nat (2 * x) 1 (by omega) (by omega)
 rw [show (1 : Int) = ((1 : Nat) : Int) from rfl, this]
 congr 1
 rw [nat_join 1 (2 * x) 1 (by omega) (by omega)]
theorem take_next (L : List Bool) (p k : Nat) (h : p + k < L.length) : (L.drop p).take (k + 1) = (L.drop p).take k ++ [L.getD (p + k) false] := by
 rw [List.take_add_one, List.getElem?_drop, List.getElem?_eq_getElem h]
 simp [List.getD, List.getElem?_eq_getElem h]

theorem run_true (L : List Bool) (p m : Nat) (h : L.getD p false = true) : run L p (m + 1) = run L (p + 1) m + 1 := by rw [run, if_pos h]
theorem run_false (L : List Bool) (p m : Nat) (h : L.getD p false = false) : run L p (m + 1) = 0 := by rw [run, if_neg (by rw [h]; decide)]

end Go.Bar.Bit

namespace Go.Bar.Bit
open Go.RowKit Go.Bar

theorem getD_drop (L : List Bool) (p k : Nat) : (L.drop p).getD k false = L.getD (p + k) false := by
 rw [List.getD_eq_getElem?_getD, List.getD_eq_getElem?_getD, List.getElem?_drop]
theorem unpack_pack_get (l : List Bool) (i : Nat) (h : i < 8 * ((l.length + 7) / 8)) : (unpack (pack l))[i]? = some (l.getD i false) := by
 rw [unpack_get _ _ (by rw [pack_length]; exact h)]
 have hq : i / 8 < (l.length + 7) / 8 := by omega
 have hb : (pack l).getD (i / 8) 0 = byteAt l (i / 8) := by rw [List.getD_eq_getElem?_getD, pack_get l _ hq]; rfl
 rw [hb]
 unfold byteAt
 obtain ⟨h0, h1, h2, h3, h4, h5, h6, h7⟩ := byte8_bits (l.getD (8 * (i / 8)) false) (l.getD (8 * (i / 8) + 1) false) (l.getD (8 * (i / 8) + 2) false) (l.getD (8 * (i / 8) + 3) false) (l.getD (8 * (i / 8) + 4) false) (l.getD (8 * (i / 8) + 5) false) (l.getD (8 * (i / 8) + 6) false) (l.getD (8 * (i / 8) + 7) false)
 have hi := Nat.div_add_mod i 8
 rcases (show i % 8 = 0 \/ i % 8 = 1 \/ i % 8 = 2 \/ i % 8 = 3 \/ i % 8 = 4 \/ i % 8 = 5 \/ i % 8 = 6 \/ i % 8 = 7 by omega) with h | h | h | h | h | h | h | h <;> rw [h] at hi ⊢
 ·rw [h0]; rw [show i = 8 * (i / 8) by omega]; simp
 ·rw [h1]; congr 2
 ·rw [h2]; congr 2
 ·rw [h3]; congr 2
 ·rw [h4]; congr 2
 ·rw [h5]; congr 2
 ·rw [h6]; congr 2
 ·rw [h7]; congr 2
theorem unpack_pack_take (l : List Bool) : (unpack (pack l)).take l.length = l := by
 apply List.ext_getElem?
 intro i
 rw [List.getElem?_take]
 split
 ·next h =>
  rw [unpack_pack_get l i (by omega), List.getD_eq_getElem?_getD, List.getElem?_eq_getElem h]
  rfl
 ·next h => rw [List.getElem?_eq_none (by omega)]
theorem bitsOf_snoc (v : Nat) : ∀ n, bitsOf v (n + 1) = bitsOf (v / 2) n ++ [v % 2 == 1]
 | 0 => by simp [bitsOf]
 | n + 1 => by
  rw [bitsOf, bitsOf_snoc v n, bitsOf, List.cons_append]
  congr 1
  rw [Nat.div_div_eq_div_mul, Nat.pow_succ, Nat.mul_comm]
theorem num_bitsOf : ∀ (n v : Nat), num (bitsOf v n) = v % 2 ^ n
 | 0, v => by simp [bitsOf, num, Nat.mod_one]
 | n + 1, v => by
  rw [bitsOf_snoc, num_snoc, num_bitsOf n (v / 2), Nat.pow_succ, Nat.mul_comm (2 ^ n) 2, Nat.mod_mul]
  rcases Nat.mod_two_eq_zero_or_one v with h | h <;> rw [h] <;> simp <;> omega
theorem run_ones (L : List Bool) : ∀ (c p m : Nat) (rest : List Bool), L.drop p = List.replicate c true ++ rest -> c <= m -> (c < m -> rest.getD 0 false = false) -> run L p m = c
 | 0, p, 0, rest, _, _, _ => rfl
 | 0, p, m + 1, rest, h, _, h0 => by
  rw [run_false]
  have := getD_drop L p 0
  rw [Nat.add_zero] at this
  rw [<- this, h]
  exact h0 (by omega)
 | c + 1, p, 0, rest, _, hc, _ => by omega
 | c + 1, p, m + 1, rest, h, hc, h0 => by
  have h1 := getD_drop L p 0
  rw [Nat.add_zero, h] at h1
  have h2 : L.drop (p + 1) = List.replicate c true ++ rest := by
   rw [<- List.drop_drop, h, List.replicate_succ, List.cons_append, List.drop_succ_cons, List.drop_zero]
  rw [run_true L p m (by rw [<- h1, List.replicate_succ, List.cons_append]; rfl), run_ones L c (p + 1) m rest h2 (by omega) (fun hh => h0 (by omega))]

theorem eyeBit_of {L rest : List Bool} {p : Nat} {x : Bool} (h : L.drop p = [x] ++ rest) : eyeBit L p 0 = (x, p + 1, 0) := by
 have h1 := getD_drop L p 0
 rw [Nat.add_zero, h] at h1
 have hl := congrArg List.length h
 rw [List.length_drop, List.length_append] at hl
 simp only [List.length_cons, List.length_nil] at hl
 unfold eyeBit
 rw [if_neg (by omega), if_pos (by omega), <- h1]
 rfl
theorem eyeBits_of {L rest : List Bool} {p v : Nat} {n : Int} (h : L.drop p = bitsOf v (clip n) ++ rest) : eyeBits L p 0 n = (v % 2 ^ clip n, p + clip n, 0) := by
 have hl := congrArg List.length h
 rw [List.length_drop, List.length_append, bitsOf_length] at hl
 unfold eyeBits
 rw [if_neg (by omega), if_neg (by omega), h]
 rw [List.take_append_of_le_length (by rw [bitsOf_length]; exact Nat.le_refl _), List.take_of_length_le (by rw [bitsOf_length]; exact Nat.le_refl _), num_bitsOf]
theorem eyeUnary_of {L rest : List Bool} {p : Nat} {n m : Int} (h : L.drop p = unary n m ++ rest) : eyeUnary L p 0 m = (ones n m, p + (unary n m).length, 0) := by
 obtain ⟨c, hc⟩ : ∃ c, c = ones n m := ⟨_, rfl⟩
 have hc1 : (c : Int) = min (max n 0) (max m 0) := by rw [hc]; unfold ones; omega
 have hl := congrArg List.length h
 rw [List.length_drop, List.length_append] at hl
 unfold unary at h hl ⊢
 rw [<- hc] at h hl ⊢
 unfold eyeUnary
 rw [if_neg (by omega)]
 by_cases hlt : (c : Int) < m
 ·rw [if_pos hlt] at h hl ⊢
  rw [List.append_assoc] at h
  have hr := run_ones L c p m.toNat ([false] ++ rest) h (by omega) (fun _ => rfl)
  rw [List.length_append, List.length_replicate] at hl ⊢
  simp only [List.length_cons, List.length_nil] at hl ⊢
  rw [hr, if_neg (by omega), if_pos (by omega)]
  simp only [Nat.add_assoc]
 ·rw [if_neg hlt, List.append_nil] at h hl ⊢
  have hr := run_ones L c p m.toNat rest h (by omega) (fun hh => by omega)
  have hm : m.toNat = c := by omega
  rw [hr, if_pos hm.symm, hm, List.length_replicate]


end Go.Bar.Bit
