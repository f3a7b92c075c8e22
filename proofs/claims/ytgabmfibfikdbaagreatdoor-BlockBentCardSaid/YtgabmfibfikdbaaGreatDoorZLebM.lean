/-
  Plain mathematics of layer 1 (LEB128 numbers and texts): no program in sight; no condition.
-/
import Derived.Test.YtgabmfibfikdbaaGreatDoorZLib1
import Derived.Lib.Strings

namespace Go.Bar.Leb
open Go.RowKit Go.Bar

/-- a number's bytes -/
def u (n : Nat) : List UInt8 := if n < 128 then [UInt8.ofNat n] else UInt8.ofNat (n % 128 + 128) :: u (n / 128)
  termination_by n
  decreasing_by omega

theorem u_lt {n : Nat} (h : n < 128) : u n = [UInt8.ofNat n] := by rw [u, if_pos h]
theorem u_ge {n : Nat} (h : 128 ≤ n) : u n = UInt8.ofNat (n % 128 + 128) :: u (n / 128) := by rw [u, if_neg (by omega)]

theorem u_len_le : ∀ (k n : Nat), n < 128 ^ (k + 1) → (u n).length ≤ k + 1
  | 0, n, h => by rw [u_lt (by simpa using h)]; simp
  | k + 1, n, h => by
    by_cases hn : n < 128
    · rw [u_lt hn]; simp
    · rw [u_ge (by omega), List.length_cons]
      have := u_len_le k (n / 128) (by rw [Nat.pow_succ] at h; omega)
      omega
theorem u_len (n : Nat) (h : n < 18446744073709551616) : (u n).length ≤ 10 := u_len_le 9 n (by omega)
theorem u_pos (n : Nat) : 0 < (u n).length := by
  by_cases hn : n < 128
  · rw [u_lt hn]; simp
  · rw [u_ge (by omega)]; simp

/-- what is taken from byte i on: the number, what is left, the error -/
def tk : Nat → Nat → List UInt8 → Nat × List UInt8 × Nat
  | _, _, [] => (0, [], 2)
  | i, acc, c :: r =>
    if i = 9 ∧ 1 < c.toNat then (0, [], 3)
    else if c.toNat = 0 ∧ 0 < i then (0, [], 3)
    else if c.toNat < 128 then (acc + c.toNat % 128 * 128 ^ i, r, 0)
    else tk (i + 1) (acc + c.toNat % 128 * 128 ^ i) r

def takeU (l : List UInt8) : Nat × List UInt8 × Nat := tk 0 0 l

theorem acc_step (acc k c : Nat) (hacc : acc < 128 ^ k) (hk : k ≤ 9) (hc : c < 256) (h9 : k = 9 → c ≤ 1) (p : Int) (hp : p = ((2 ^ (7 * k) : Nat) : Int)) :
    bits .or .u64 (acc : Int) (IntKind.u64.wrap (IntKind.u64.wrap (bits .and .u8 (c : Int) 127) * p)) = ((acc + c % 128 * 128 ^ k : Nat) : Int) := by
  have e1 : (2 : Nat) ^ (7 * k) = 128 ^ k := by rw [Nat.pow_mul]
  have hp128 : 128 ^ k ≤ 128 ^ 9 := Nat.pow_le_pow_right (by omega) hk
  have hb : c % 128 * 128 ^ k < 18446744073709551616 := by
    by_cases h : k = 9
    · subst h
      have := h9 rfl
      have h2 : c % 128 ≤ 1 := by omega
      have := Nat.mul_le_mul_right (128 ^ 9) h2
      omega
    · have hp' : 128 ^ k ≤ 128 ^ 8 := Nat.pow_le_pow_right (by omega) (by omega)
      have := Nat.mul_le_mul (show c % 128 ≤ 127 by omega) hp'
      omega
  have hm : bits .and .u8 (c : Int) 127 = ((c % 128 : Nat) : Int) := by
    have := u8_and_nat c 127 hc (by omega)
    rw [nat_mask7] at this
    exact this
  rw [hm, hp, e1]
  have e2 : IntKind.u64.wrap ((c % 128 : Nat) : Int) = ((c % 128 : Nat) : Int) := by rw [IntKind.wrap_u64]; omega
  rw [e2, ← Int.natCast_mul]
  have e3 : IntKind.u64.wrap ((c % 128 * 128 ^ k : Nat) : Int) = ((c % 128 * 128 ^ k : Nat) : Int) := by rw [IntKind.wrap_u64]; omega
  rw [e3, u64_or_nat _ _ (by omega) hb]
  congr 1
  have := nat_join (7 * k) (c % 128 * 128 ^ k) acc (by rw [e1]; exact Nat.mul_mod_left _ _) (by rw [e1]; exact hacc)
  rw [Nat.or_comm, this, Nat.add_comm]
theorem acc_lt (acc k c : Nat) (hacc : acc < 128 ^ k) : acc + c % 128 * 128 ^ k < 128 ^ (k + 1) := by
  rw [Nat.pow_succ]
  have := Nat.mul_le_mul_right (128 ^ k) (show c % 128 ≤ 127 by omega)
  omega
theorem drop_str (s : ByteArray) (k : Nat) : s.extract k s.size = bs (s.data.toList.drop k) := by
  have e : (s.extract k s.size).data.toList = s.data.toList.drop k := by
    rw [Lib.extract_data]
    exact List.take_of_length_le (by rw [List.length_drop]; exact Nat.le_of_eq (by rw [size_eq]))
  rw [← e]; rfl
theorem drop_cons (s : ByteArray) (k : Nat) (hk : k < s.size) : s.data.toList.drop k = s[k] :: s.data.toList.drop (k + 1) := by
  rw [List.drop_eq_getElem_cons hk]; rfl

theorem tk_end {i acc : Nat} : tk i acc [] = (0, [], 2) := rfl
theorem tk_big {i acc : Nat} {c : UInt8} {r : List UInt8} (h : i = 9) (hc : 1 < c.toNat) : tk i acc (c :: r) = (0, [], 3) := by rw [tk, if_pos ⟨h, hc⟩]
theorem tk_zero {i acc : Nat} {c : UInt8} {r : List UInt8} (h : 0 < i) (hc : c.toNat = 0) : tk i acc (c :: r) = (0, [], 3) := by
  rw [tk, if_neg (by omega), if_pos ⟨hc, h⟩]
theorem tk_last {i acc : Nat} {c : UInt8} {r : List UInt8} (h : i = 9 → c.toNat ≤ 1) (h0 : c.toNat = 0 → i = 0) (hc : c.toNat < 128) : tk i acc (c :: r) = (acc + c.toNat % 128 * 128 ^ i, r, 0) := by
  rw [tk, if_neg (by omega), if_neg (by omega), if_pos hc]
theorem tk_more {i acc : Nat} {c : UInt8} {r : List UInt8} (h : i ≠ 9) (hc : 128 ≤ c.toNat) : tk i acc (c :: r) = tk (i + 1) (acc + c.toNat % 128 * 128 ^ i) r := by
  rw [tk, if_neg (by omega), if_neg (by omega), if_neg (by omega)]
theorem Quiet.of {w w' : World} {v v' : Value} (h : v = v') (hw : ∃ n, w' = w.drewN n) : Quiet w v (.returned v') w' := ⟨by rw [h], hw⟩
/-- the end of a way on which a number is taken -/
theorem takeU_last {s : ByteArray} {k acc : Nat} (hk : k < s.size) (hk9 : k ≤ 9) (hacc : acc < 128 ^ k) (HT : Hid (tk k acc (s[k] :: s.data.toList.drop (k + 1)) = takeU s.data.toList))
    (h : k = 9 → s[k].toNat ≤ 1) (h0 : s[k].toNat = 0 → k = 0) (hc : s[k].toNat < 128) (z p : Int) (q : Nat) (hz : z = (s[k].toNat : Int)) (hp : p = ((2 ^ (7 * k) : Nat) : Int)) (hq : q = k + 1) :
    Value.tuple #[.int .u64 (takeU s.data.toList).1, .string (bs (takeU s.data.toList).2.1), .int .i64 (takeU s.data.toList).2.2] =
      Value.tuple #[.int .u64 (bits .or .u64 (acc : Int) (IntKind.u64.wrap (IntKind.u64.wrap (bits .and .u8 z 127) * p))), .string (s.extract q s.size), .int .i64 0] := by
  rw [← HT.out, tk_last h h0 hc, hz, hq, acc_step acc k _ hacc hk9 (UInt8.toNat_lt _) h p hp, drop_str s (k + 1)]
  rfl
theorem takeU_bad {s : ByteArray} {k acc : Nat} (hk : k < s.size) (HT : Hid (tk k acc (s[k] :: s.data.toList.drop (k + 1)) = takeU s.data.toList)) (h : k = 9 ∧ 1 < s[k].toNat ∨ 0 < k ∧ s[k].toNat = 0) :
    Value.tuple #[.int .u64 (takeU s.data.toList).1, .string (bs (takeU s.data.toList).2.1), .int .i64 (takeU s.data.toList).2.2] = Value.tuple #[.int .u64 0, .string { data := #[] }, .int .i64 3] := by
  rcases h with ⟨h1, h2⟩ | ⟨h1, h2⟩
  · rw [← HT.out, tk_big h1 h2]; rfl
  · rw [← HT.out, tk_zero h1 h2]; rfl

theorem byte_hi (k : Nat) : bits .or .u8 ((k : Int) % 256) 128 = ((UInt8.ofNat (k % 128 + 128)).toNat : Int) := by
  have e : ((k : Int) % 256) = ((k % 256 : Nat) : Int) := by omega
  have := u8_or_nat (k % 256) 128 (by omega) (by omega)
  rw [e]
  refine this.trans ?_
  rw [UInt8.toNat_ofNat']
  congr 1
  have h1 : k % 256 = k % 128 + k / 128 % 2 * 128 := by omega
  have h2 : (k % 256) ||| 128 = k % 128 + 128 := by
    rcases (show k / 128 % 2 = 0 ∨ k / 128 % 2 = 1 by omega) with h | h
    · rw [show k % 256 = k % 128 by omega, Nat.or_comm, nat_join 7 128 (k % 128) (by omega) (by omega), Nat.add_comm]
    · rw [show k % 256 = 128 + k % 128 by omega, ← nat_join 7 128 (k % 128) (by omega) (by omega), Nat.or_comm 128 (k % 128), Nat.or_assoc, Nat.or_self, Nat.or_comm, nat_join 7 128 (k % 128) (by omega) (by omega), Nat.add_comm]
  rw [h2]
  exact (Nat.mod_eq_of_lt (by omega)).symm
theorem byte_lo (k : Nat) (h : k < 128) : (k : Int) = ((UInt8.ofNat k).toNat : Int) := by
  rw [UInt8.toNat_ofNat']
  congr 1
  exact (Nat.mod_eq_of_lt (by omega)).symm

/-- signed numbers -/
def fold (v : Int) : Nat := if v < 0 then 2 * (-(v + 1)).toNat + 1 else 2 * v.toNat
def unfold (n : Nat) : Int := if n % 2 = 1 then -((n / 2 : Nat) : Int) - 1 else ((n / 2 : Nat) : Int)
theorem unfold_fold (v : Int) : unfold (fold v) = v := by
  unfold unfold fold
  split <;> split <;> omega
theorem fold_lt (v : Int) (h1 : -9223372036854775808 ≤ v) (h2 : v ≤ 9223372036854775807) : fold v < 18446744073709551616 := by
  unfold fold; split <;> omega
theorem unfold_rg (n : Nat) (h : n < 18446744073709551616) : -9223372036854775808 ≤ unfold n ∧ unfold n ≤ 9223372036854775807 := by
  unfold unfold; split <;> omega

def takeMost (l : List UInt8) (most : Int) : Nat × List UInt8 × Nat := if (takeU l).2.2 = 0 ∧ (max most 0).toNat < (takeU l).1 then (0, [], 16) else takeU l
def takeText (l : List UInt8) (most : Int) : List UInt8 × List UInt8 × Nat :=
  if (takeMost l most).2.2 ≠ 0 then ([], [], (takeMost l most).2.2)
  else if (takeMost l most).2.1.length < (takeMost l most).1 then ([], [], 2)
  else ((takeMost l most).2.1.take (takeMost l most).1, (takeMost l most).2.1.drop (takeMost l most).1, 0)

theorem tk_prop : ∀ (l : List UInt8) (i acc : Nat), i ≤ 9 → acc < 128 ^ i → (tk i acc l).1 < 18446744073709551616 ∧ (tk i acc l).2.1.length ≤ l.length ∧ ((tk i acc l).2.2 = 0 ∨ ((tk i acc l).2.2 = 2 ∨ (tk i acc l).2.2 = 3) ∧ (tk i acc l).1 = 0 ∧ (tk i acc l).2.1 = [])
  | [], i, acc, _, _ => by rw [tk_end]; exact ⟨by omega, Nat.le_refl _, .inr ⟨.inl rfl, rfl, rfl⟩⟩
  | c :: r, i, acc, hi, ha => by
    by_cases h1 : i = 9 ∧ 1 < c.toNat
    · rw [tk_big h1.1 h1.2]; exact ⟨by omega, by simp, .inr ⟨.inr rfl, rfl, rfl⟩⟩
    · by_cases h2 : c.toNat = 0 ∧ 0 < i
      · rw [tk_zero h2.2 h2.1]; exact ⟨by omega, by simp, .inr ⟨.inr rfl, rfl, rfl⟩⟩
      · by_cases h3 : c.toNat < 128
        · rw [tk_last (by omega) (by omega) h3]
          refine ⟨?_, by simp, .inl rfl⟩
          have hp : 128 ^ i ≤ 128 ^ 9 := Nat.pow_le_pow_right (by omega) hi
          by_cases h9 : i = 9
          · subst h9
            have := Nat.mul_le_mul_right (128 ^ 9) (show c.toNat % 128 ≤ 1 by omega)
            omega
          · have hp' : 128 ^ i ≤ 128 ^ 8 := Nat.pow_le_pow_right (by omega) (by omega)
            have := Nat.mul_le_mul (show c.toNat % 128 ≤ 127 by omega) hp'
            omega
        · rw [tk_more (by omega) (by omega)]
          obtain ⟨g1, g2, g3⟩ := tk_prop r (i + 1) _ (by omega) (acc_lt acc i c.toNat ha)
          exact ⟨g1, by rw [List.length_cons]; omega, g3⟩
theorem takeU_prop (l : List UInt8) : (takeU l).1 < 18446744073709551616 ∧ (takeU l).2.1.length ≤ l.length ∧ ((takeU l).2.2 = 0 ∨ ((takeU l).2.2 = 2 ∨ (takeU l).2.2 = 3) ∧ (takeU l).1 = 0 ∧ (takeU l).2.1 = []) := tk_prop l 0 0 (by omega) (by simp)

/-- a number's bytes are taken again -/
theorem tk_u : ∀ (n i acc : Nat) (r : List UInt8), acc < 128 ^ i → i ≤ 9 → (0 < i → 0 < n) → acc + n * 128 ^ i < 18446744073709551616 → tk i acc (u n ++ r) = (acc + n * 128 ^ i, r, 0) := by
  intro n
  induction n using Nat.strongRecOn with
  | _ n ih =>
    intro i acc r ha hi h0 hlt
    have hb : ∀ m, m < 256 → (UInt8.ofNat m).toNat = m := fun m hm => by rw [UInt8.toNat_ofNat']; omega
    by_cases hn : n < 128
    · rw [u_lt hn, List.singleton_append, tk_last]
      · rw [hb n (by omega), Nat.mod_eq_of_lt hn]
      · intro h9; subst h9
        rw [hb n (by omega)]
        omega
      · rw [hb n (by omega)]; omega
      · rw [hb n (by omega)]; exact hn
    · have h9 : i ≠ 9 := by rintro rfl; omega
      rw [u_ge (by omega), List.cons_append, tk_more h9 (by rw [hb _ (by omega)]; omega), hb _ (by omega)]
      have e1 : (n % 128 + 128) % 128 = n % 128 := by omega
      have e2 : acc + n % 128 * 128 ^ i + n / 128 * 128 ^ (i + 1) = acc + n * 128 ^ i := by
        rw [Nat.pow_succ, Nat.mul_comm (128 ^ i) 128, ← Nat.mul_assoc, Nat.add_assoc, ← Nat.add_mul]
        congr 2
        omega
      rw [e1, ih (n / 128) (by omega) (i + 1) _ r (by have := acc_lt acc i (n % 128) ha; rwa [Nat.mod_mod] at this) (by omega) (by omega) (by rw [e2]; exact hlt), e2]
theorem takeU_u (n : Nat) (r : List UInt8) (h : n < 18446744073709551616) : takeU (u n ++ r) = (n, r, 0) := by
  unfold takeU
  rw [tk_u n 0 0 r (by simp) (by omega) (fun h => absurd h (by omega)) (by simpa using h)]
  simp

/-- what is taken as a number is its bytes -/
theorem tk_one : ∀ (l : List UInt8) (i acc : Nat), i ≤ 9 → (tk i acc l).2.2 = 0 → ∃ n, (0 < i → 0 < n) ∧ (tk i acc l).1 = acc + n * 128 ^ i ∧ l = u n ++ (tk i acc l).2.1
  | [], i, acc, _, h => by rw [tk_end] at h; cases h
  | c :: r, i, acc, hi, h => by
    by_cases h1 : i = 9 ∧ 1 < c.toNat
    · rw [tk_big h1.1 h1.2] at h; cases h
    · by_cases h2 : c.toNat = 0 ∧ 0 < i
      · rw [tk_zero h2.2 h2.1] at h; cases h
      · by_cases h3 : c.toNat < 128
        · rw [tk_last (by omega) (by omega) h3]
          refine ⟨c.toNat, by omega, by simp only []; rw [Nat.mod_eq_of_lt h3], ?_⟩
          rw [u_lt h3, List.singleton_append]
          simp
        · have hm := tk_more (acc := acc) (r := r) (c := c) (i := i) (by omega) (by omega)
          rw [hm] at h ⊢
          obtain ⟨n, hn0, hn, hl⟩ := tk_one r (i + 1) _ (by omega) h
          have hc := UInt8.toNat_lt c
          refine ⟨c.toNat % 128 + n * 128, fun _ => by have := hn0 (by omega); omega, ?_, ?_⟩
          · rw [hn, Nat.pow_succ, Nat.add_mul, Nat.mul_comm (128 ^ i) 128, ← Nat.mul_assoc, Nat.add_assoc]
          · have hn1 := hn0 (by omega)
            rw [u_ge (by omega), show (c.toNat % 128 + n * 128) / 128 = n by omega, show (c.toNat % 128 + n * 128) % 128 + 128 = c.toNat by omega, List.cons_append, ← hl]
            simp
theorem takeU_one (l : List UInt8) (h : (takeU l).2.2 = 0) : u (takeU l).1 ++ (takeU l).2.1 = l := by
  obtain ⟨n, _, hn, hl⟩ := tk_one l 0 0 (by omega) h
  unfold takeU
  rw [show (tk 0 0 l).1 = n by rw [hn]; simp]
  exact hl.symm

/-- the bits of fold and unfold -/
theorem fold_bits (v : Int) (h1 : -9223372036854775808 ≤ v) (h2 : v ≤ 9223372036854775807) :
    bits .xor .u64 (IntKind.u64.wrap (IntKind.u64.wrap v * 2)) (IntKind.u64.wrap (v / 9223372036854775808)) = (fold v : Int) := by
  unfold fold
  split
  · rename_i h
    have e1 : IntKind.u64.wrap (IntKind.u64.wrap v * 2) = ((18446744073709551616 - 2 * (-v).toNat : Nat) : Int) := by rw [IntKind.wrap_u64, IntKind.wrap_u64]; omega
    have e2 : IntKind.u64.wrap (v / 9223372036854775808) = ((18446744073709551615 : Nat) : Int) := by rw [IntKind.wrap_u64]; omega
    rw [e1, e2, u64_xor_nat _ _ (by omega) (by omega)]
    congr 1
    have hx : ∀ a, a < 18446744073709551616 → a ^^^ 18446744073709551615 = 18446744073709551615 - a := by
      intro a ha
      have := BitVec.toNat_not (x := BitVec.ofNat 64 a)
      rw [← BitVec.xor_allOnes, BitVec.toNat_xor, BitVec.toNat_allOnes, BitVec.toNat_ofNat] at this
      rw [Nat.mod_eq_of_lt (show a < 2 ^ 64 by omega)] at this
      simpa using this
    rw [hx _ (by omega)]
    omega
  · rename_i h
    have e1 : IntKind.u64.wrap (IntKind.u64.wrap v * 2) = ((2 * v.toNat : Nat) : Int) := by rw [IntKind.wrap_u64, IntKind.wrap_u64]; omega
    have e2 : IntKind.u64.wrap (v / 9223372036854775808) = ((0 : Nat) : Int) := by rw [IntKind.wrap_u64]; omega
    rw [e1, e2, u64_xor_nat _ _ (by omega) (by omega), Nat.xor_zero]

theorem unfold_bits (n : Nat) (h : n < 18446744073709551616) (x : Int) (hx : x = (n : Int) / 2) :
    bits .xor .i64 x (wrap64 (-wrap64 (bits .and .u64 (n : Int) 1))) = unfold n := by
  subst hx
  have e0 : bits .and .u64 (n : Int) 1 = ((n % 2 : Nat) : Int) := by
    have := u64_and_nat n 1 h (by omega)
    rw [nat_mask1] at this
    exact this
  rw [e0]
  have eo : (BitVec.ofInt 64 ((n : Int) / 2)).toNat = n / 2 := by
    have : (n : Int) / 2 = ((n / 2 : Nat) : Int) := by omega
    rw [this, BitVec.ofInt_natCast, BitVec.toNat_ofNat]
    exact Nat.mod_eq_of_lt (by omega)
  unfold unfold
  rcases (show n % 2 = 0 ∨ n % 2 = 1 by omega) with h2 | h2
  · rw [h2, if_neg (by omega)]
    have e1 : wrap64 (-wrap64 ((0 : Nat) : Int)) = 0 := by unfold wrap64; decide
    rw [e1]
    show IntKind.i64.wrap ((BitVec.ofInt 64 ((n : Int) / 2) ^^^ BitVec.ofInt 64 0).toNat : Int) = _
    rw [BitVec.toNat_xor, eo]
    have : (BitVec.ofInt 64 0).toNat = 0 := by decide
    rw [this, Nat.xor_zero, IntKind.wrap_i64]
    omega
  · rw [h2, if_pos rfl]
    have e1 : wrap64 (-wrap64 ((1 : Nat) : Int)) = -1 := by unfold wrap64; decide
    rw [e1]
    show IntKind.i64.wrap ((BitVec.ofInt 64 ((n : Int) / 2) ^^^ BitVec.ofInt 64 (-1)).toNat : Int) = _
    have : BitVec.ofInt 64 (-1) = BitVec.allOnes 64 := by decide
    rw [this, BitVec.xor_allOnes, BitVec.toNat_not, eo, IntKind.wrap_i64]
    omega

theorem takeMost_prop (l : List UInt8) (most : Int) (hm : most ≤ 9223372036854775807) : (takeMost l most).1 ≤ 9223372036854775807 ∧ (takeMost l most).2.1.length ≤ l.length ∧ ((takeMost l most).2.2 = 0 ∨ (takeMost l most).2.2 ≠ 0 ∧ (takeMost l most).1 = 0 ∧ (takeMost l most).2.1 = []) := by
  have hp := takeU_prop l
  unfold takeMost
  by_cases h : (takeU l).2.2 = 0 ∧ (max most 0).toNat < (takeU l).1
  · rw [if_pos h]; exact ⟨Nat.zero_le _, Nat.zero_le _, .inr ⟨by decide, rfl, rfl⟩⟩
  · rw [if_neg h]
    obtain ⟨h1, h2, h3⟩ := hp
    rcases h3 with h3 | ⟨h3, h4, h5⟩
    · exact ⟨by omega, h2, .inl h3⟩
    · exact ⟨by omega, h2, .inr ⟨by omega, h4, h5⟩⟩

theorem takeMost_u (n : Nat) (r : List UInt8) (most : Int) (h : n < 18446744073709551616) (hm : (n : Int) ≤ most) : takeMost (u n ++ r) most = (n, r, 0) := by
  unfold takeMost
  rw [takeU_u n r h, if_neg (by simp only []; omega)]
theorem takeText_text (l r : List UInt8) (most : Int) (h : l.length < 18446744073709551616) (hm : (l.length : Int) ≤ most) : takeText (u l.length ++ l ++ r) most = (l, r, 0) := by
  unfold takeText
  rw [List.append_assoc, takeMost_u l.length (l ++ r) most h hm]
  simp only []
  rw [if_neg (by omega), if_neg (by rw [List.length_append]; omega), List.take_left, List.drop_left]

end Go.Bar.Leb
