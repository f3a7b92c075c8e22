/-
  Plain mathematics of layer 1 (LEB128 numbers and texts): no program in sight; no condition.
-/
import Derived.Test.YtcopknopifbebaaGreatDoorZLib1
import Derived.Lib.Strings
import Derived.BigQuiet
import Derived.Deep.QuietTactic
import Derived.Test.YtcopknopifbebaaGreatDoorZLib3
import Derived.RegionTactic
import Derived.ChangeAlike
import Derived.Deep.RegionWith
import Derived.Deep.DeepCutAuto
import Derived.Deep.DrawnRows

namespace Go.Bar.Leb
open Go.RowKit Go.Bar

def u (n : Nat) : List UInt8 := if n < 128 then [UInt8.ofNat n] else UInt8.ofNat (n % 128 + 128) :: u (n / 128)
  termination_by n
  decreasing_by omega

theorem u_lt {n : Nat} (h : n < 128) : u n = [UInt8.ofNat n] := by rw [u, if_pos h]
theorem u_ge {n : Nat} (h : 128 ≤ n) : u n = UInt8.ofNat (n % 128 + 128) :: u (n / 128) := by rw [u, if_neg (by omega)]

theorem u_len_le : ∀ (k n : Nat), n < 128 ^ (k + 1) → (u n).length ≤ k + 1
  | 0, n, h => by rw [u_lt (by simpa using h)]; simp
  | k + 1, n, h => by
    by_cases hn : n < 128
    · rw [u_lt hn]; simp
    · rw [u_ge (by omega), List.length_cons]
      have := u_len_le k (n / 128) (by rw [Nat.pow_succ] at h; omega)
      omega
theorem u_len (n : Nat) (h : n < 18446744073709551616) : (u n).length ≤ 10 := u_len_le 9 n (by omega)
theorem u_pos (n : Nat) : 0 < (u n).length := by
  by_cases hn : n < 128
  · rw [u_lt hn]; simp
  · rw [u_ge (by omega)]; simp

def tk : Nat → Nat → List UInt8 → Nat × List UInt8 × Nat
  | _, _, [] => (0, [], 2)
  | i, acc, c :: r =>
    if i = 9 ∧ 1 < c.toNat then (0, [], 3)
    else if c.toNat = 0 ∧ 0 < i then (0, [], 3)
    else if c.toNat < 128 then (acc + c.toNat % 128 * 128 ^ i, r, 0)
    else tk (i + 1) (acc + c.toNat % 128 * 128 ^ i) r

def takeU (l : List UInt8) : Nat × List UInt8 × Nat := tk 0 0 l

theorem acc_step (acc k c : Nat) (hacc : acc < 128 ^ k) (hk : k ≤ 9) (hc : c < 256) (h9 : k = 9 → c ≤ 1) (p : Int) (hp : p = ((2 ^ (7 * k) : Nat) : Int)) :
    bits .or .u64 (acc : Int) (IntKind.u64.wrap (IntKind.u64.wrap (bits .and .u8 (c : Int) 127) * p)) = ((acc + c % 128 * 128 ^ k : Nat) : Int) := by
  have e1 : (2 : Nat) ^ (7 * k) = 128 ^ k := by rw [Nat.pow_mul]
  have hp128 : 128 ^ k ≤ 128 ^ 9 := Nat.pow_le_pow_right (by omega) hk
  have hb : c % 128 * 128 ^ k < 18446744073709551616 := by
    by_cases h : k = 9
    · subst h
      have := h9 rfl
      have h2 : c % 128 ≤ 1 := by omega
      have := Nat.mul_le_mul_right (128 ^ 9) h2
      omega
    · have hp' : 128 ^ k ≤ 128 ^ 8 := Nat.pow_le_pow_right (by omega) (by omega)
      have := Nat.mul_le_mul (show c % 128 ≤ 127 by omega) hp'
      omega
  have hm : bits .and .u8 (c : Int) 127 = ((c % 128 : Nat) : Int) := by
    have := u8_and_nat c 127 hc (by omega)
    rw [nat_mask7] at this
    exact this
  rw [hm, hp, e1]
  have e2 : IntKind.u64.wrap ((c % 128 : Nat) : Int) = ((c % 128 : Nat) : Int) := by rw [IntKind.wrap_u64]; omega
  rw [e2, ← Int.natCast_mul]
  have e3 : IntKind.u64.wrap ((c % 128 * 128 ^ k : Nat) : Int) = ((c % 128 * 128 ^ k : Nat) : Int) := by rw [IntKind.wrap_u64]; omega
  rw [e3, u64_or_nat _ _ (by omega) hb]
  congr 1
  have := nat_join (7 * k) (c % 128 * 128 ^ k) acc (by rw [e1]; exact Nat.mul_mod_left _ _) (by rw [e1]; exact hacc)
  rw [Nat.or_comm, this, Nat.add_comm]
theorem acc_lt (acc k c : Nat) (hacc : acc < 128 ^ k) : acc + c % 128 * 128 ^ k < 128 ^ (k + 1) := by
  rw [Nat.pow_succ]
  have := Nat.mul_le_mul_right (128 ^ k) (show c % 128 ≤ 127 by omega)
  omega
theorem drop_str (s : ByteArray) (k : Nat) : s.extract k s.size = bs (s.data.toList.drop k) := by
  have e : (s.extract k s.size).data.toList = s.data.toList.drop k := by
    rw [Lib.extract_data]
    exact List.take_of_length_le (by rw [List.length_drop]; exact Nat.le_of_eq (by rw [size_eq]))
  rw [← e]; rfl
theorem drop_cons (s : ByteArray) (k : Nat) (hk : k < s.size) : s.data.toList.drop k = s[k] :: s.data.toList.drop (k + 1) := by
  rw [List.drop_eq_getElem_cons hk]; rfl

theorem tk_end {i acc : Nat} : tk i acc [] = (0, [], 2) := rfl
theorem tk_big {i acc : Nat} {c : UInt8} {r : List UInt8} (h : i = 9) (hc : 1 < c.toNat) : tk i acc (c :: r) = (0, [], 3) := by rw [tk, if_pos ⟨h, hc⟩]
theorem tk_zero {i acc : Nat} {c : UInt8} {r : List UInt8} (h : 0 < i) (hc : c.toNat = 0) : tk i acc (c :: r) = (0, [], 3) := by
  rw [tk, if_neg (by omega), if_pos ⟨hc, h⟩]
theorem tk_last {i acc : Nat} {c : UInt8} {r : List UInt8} (h : i = 9 → c.toNat ≤ 1) (h0 : c.toNat = 0 → i = 0) (hc : c.toNat < 128) : tk i acc (c :: r) = (acc + c.toNat % 128 * 128 ^ i, r, 0) := by
  rw [tk, if_neg (by omega), if_neg (by omega), if_pos hc]
theorem tk_more {i acc : Nat} {c : UInt8} {r : List UInt8} (h : i ≠ 9) (hc : 128 ≤ c.toNat) : tk i acc (c :: r) = tk (i + 1) (acc + c.toNat % 128 * 128 ^ i) r := by
  rw [tk, if_neg (by omega), if_neg (by omega), if_neg (by omega)]
theorem Quiet.of {w w' : World} {v v' : Value} (h : v = v') (hw : ∃ n, w' = w.drewN n) : Quiet w v (.returned v') w' := ⟨by rw [h], hw⟩
theorem takeU_last {s : ByteArray} {k acc : Nat} (hk : k < s.size) (hk9 : k ≤ 9) (hacc : acc < 128 ^ k) (HT : Hid (tk k acc (s[k] :: s.data.toList.drop (k + 1)) = takeU s.data.toList))
    (h : k = 9 → s[k].toNat ≤ 1) (h0 : s[k].toNat = 0 → k = 0) (hc : s[k].toNat < 128) (z p : Int) (q : Nat) (hz : z = (s[k].toNat : Int)) (hp : p = ((2 ^ (7 * k) : Nat) : Int)) (hq : q = k + 1) :
    Value.tuple #[.int .u64 (takeU s.data.toList).1, .string (bs (takeU s.data.toList).2.1), .int .i64 (takeU s.data.toList).2.2] =
      Value.tuple #[.int .u64 (bits .or .u64 (acc : Int) (IntKind.u64.wrap (IntKind.u64.wrap (bits .and .u8 z 127) * p))), .string (s.extract q s.size), .int .i64 0] := by
  rw [← HT.out, tk_last h h0 hc, hz, hq, acc_step acc k _ hacc hk9 (UInt8.toNat_lt _) h p hp, drop_str s (k + 1)]
  rfl
theorem takeU_bad {s : ByteArray} {k acc : Nat} (hk : k < s.size) (HT : Hid (tk k acc (s[k] :: s.data.toList.drop (k + 1)) = takeU s.data.toList)) (h : k = 9 ∧ 1 < s[k].toNat ∨ 0 < k ∧ s[k].toNat = 0) :
    Value.tuple #[.int .u64 (takeU s.data.toList).1, .string (bs (takeU s.data.toList).2.1), .int .i64 (takeU s.data.toList).2.2] = Value.tuple #[.int .u64 0, .string { data := #[] }, .int .i64 3] := by
  rcases h with ⟨h1, h2⟩ | ⟨h1, h2⟩
  · rw [← HT.out, tk_big h1 h2]; rfl
  · rw [← HT.out, tk_zero h1 h2]; rfl

theorem byte_hi (k : Nat) : bits .or .u8 ((k : Int) % 256) 128 = ((UInt8.ofNat (k % 128 + 128)).toNat : Int) := by
  have e : ((k : Int) % 256) = ((k % 256 : Nat) : Int) := by omega
  have := u8_or_nat (k % 256) 128 (by omega) (by omega)
  rw [e]
  refine this.trans ?_
  rw [UInt8.toNat_ofNat']
  congr 1
  have h1 : k % 256 = k % 128 + k / 128 % 2 * 128 := by omega
  have h2 : (k % 256) ||| 128 = k % 128 + 128 := by
    rcases (show k / 128 % 2 = 0 ∨ k / 128 % 2 = 1 by omega) with h | h
    · rw [show k % 256 = k % 128 by omega, Nat.or_comm, nat_join 7 128 (k % 128) (by omega) (by omega), Nat.add_comm]
    · rw [show k % 256 = 128 + k % 128 by omega, ← nat_join 7 128 (k % 128) (by omega) (by omega), Nat.or_comm 128 (k % 128), Nat.or_assoc, Nat.or_self, Nat.or_comm, nat_join 7 128 (k % 128) (by omega) (by omega), Nat.add_comm]
  rw [h2]
  exact (Nat.mod_eq_of_lt (by omega)).symm
theorem byte_lo (k : Nat) (h : k < 128) : (k : Int) = ((UInt8.ofNat k).toNat : Int) := by
  rw [UInt8.toNat_ofNat']
  congr 1
  exact (Nat.mod_eq_of_lt (by omega)).symm

def unfold (n : Nat) : Int := if n % 2 = 1 then -((n / 2 : Nat) : Int) - 1 else ((n / 2 : Nat) : Int)

def takeMost (l : List UInt8) (most : Int) : Nat × List UInt8 × Nat := if (takeU l).2.2 = 0 ∧ (max most 0).toNat < (takeU l).1 then (0, [], 16) else takeU l
def takeText (l : List UInt8) (most : Int) : List UInt8 × List UInt8 × Nat :=
  if (takeMost l most).2.2 ≠ 0 then ([], [], (takeMost l most).2.2)
  else if (takeMost l most).2.1.length < (takeMost l most).1 then ([], [], 2)
  else ((takeMost l most).2.1.take (takeMost l most).1, (takeMost l most).2.1.drop (takeMost l most).1, 0)

theorem tk_prop : ∀ (l : List UInt8) (i acc : Nat), i ≤ 9 → acc < 128 ^ i → (tk i acc l).1 < 18446744073709551616 ∧ (tk i acc l).2.1.length ≤ l.length ∧ ((tk i acc l).2.2 = 0 ∨ ((tk i acc l).2.2 = 2 ∨ (tk i acc l).2.2 = 3) ∧ (tk i acc l).1 = 0 ∧ (tk i acc l).2.1 = [])
  | [], i, acc, _, _ => by rw [tk_end]; exact ⟨by omega, Nat.le_refl _, .inr ⟨.inl rfl, rfl, rfl⟩⟩
  | c :: r, i, acc, hi, ha => by
    by_cases h1 : i = 9 ∧ 1 < c.toNat
    · rw [tk_big h1.1 h1.2]; exact ⟨by omega, by simp, .inr ⟨.inr rfl, rfl, rfl⟩⟩
    · by_cases h2 : c.toNat = 0 ∧ 0 < i
      · rw [tk_zero h2.2 h2.1]; exact ⟨by omega, by simp, .inr ⟨.inr rfl, rfl, rfl⟩⟩
      · by_cases h3 : c.toNat < 128
        · rw [tk_last (by omega) (by omega) h3]
          refine ⟨?_, by simp, .inl rfl⟩
          have hp : 128 ^ i ≤ 128 ^ 9 := Nat.pow_le_pow_right (by omega) hi
          by_cases h9 : i = 9
          · subst h9
            have := Nat.mul_le_mul_right (128 ^ 9) (show c.toNat % 128 ≤ 1 by omega)
            omega
          · have hp' : 128 ^ i ≤ 128 ^ 8 := Nat.pow_le_pow_right (by omega) (by omega)
            have := Nat.mul_le_mul (show c.toNat % 128 ≤ 127 by omega) hp'
            omega
        · rw [tk_more (by omega) (by omega)]
          obtain ⟨g1, g2, g3⟩ := tk_prop r (i + 1) _ (by omega) (acc_lt acc i c.toNat ha)
          exact ⟨g1, by rw [List.length_cons]; omega, g3⟩
theorem takeU_prop (l : List UInt8) : (takeU l).1 < 18446744073709551616 ∧ (takeU l).2.1.length ≤ l.length ∧ ((takeU l).2.2 = 0 ∨ ((takeU l).2.2 = 2 ∨ (takeU l).2.2 = 3) ∧ (takeU l).1 = 0 ∧ (takeU l).2.1 = []) := tk_prop l 0 0 (by omega) (by simp)

theorem tk_u : ∀ (n i acc : Nat) (r : List UInt8), acc < 128 ^ i → i ≤ 9 → (0 < i → 0 < n) → acc + n * 128 ^ i < 18446744073709551616 → tk i acc (u n ++ r) = (acc + n * 128 ^ i, r, 0) := by
  intro n
  induction n using Nat.strongRecOn with
  | _ n ih =>
    intro i acc r ha hi h0 hlt
    have hb : ∀ m, m < 256 → (UInt8.ofNat m).toNat = m := fun m hm => by rw [UInt8.toNat_ofNat']; omega
    by_cases hn : n < 128
    · rw [u_lt hn, List.singleton_append, tk_last]
      · rw [hb n (by omega), Nat.mod_eq_of_lt hn]
      · intro h9; subst h9
        rw [hb n (by omega)]
        omega
      · rw [hb n (by omega)]; omega
      · rw [hb n (by omega)]; exact hn
    · have h9 : i ≠ 9 := by rintro rfl; omega
      rw [u_ge (by omega), List.cons_append, tk_more h9 (by rw [hb _ (by omega)]; omega), hb _ (by omega)]
      have e1 : (n % 128 + 128) % 128 = n % 128 := by omega
      have e2 : acc + n % 128 * 128 ^ i + n / 128 * 128 ^ (i + 1) = acc + n * 128 ^ i := by
        rw [Nat.pow_succ, Nat.mul_comm (128 ^ i) 128, ← Nat.mul_assoc, Nat.add_assoc, ← Nat.add_mul]
        congr 2
        omega
      rw [e1, ih (n / 128) (by omega) (i + 1) _ r (by have := acc_lt acc i (n % 128) ha; rwa [Nat.mod_mod] at this) (by omega) (by omega) (by rw [e2]; exact hlt), e2]
theorem takeU_u (n : Nat) (r : List UInt8) (h : n < 18446744073709551616) : takeU (u n ++ r) = (n, r, 0) := by
  unfold takeU
  rw [tk_u n 0 0 r (by simp) (by omega) (fun h => absurd h (by omega)) (by simpa using h)]
  simp

theorem tk_one : ∀ (l : List UInt8) (i acc : Nat), i ≤ 9 → (tk i acc l).2.2 = 0 → ∃ n, (0 < i → 0 < n) ∧ (tk i acc l).1 = acc + n * 128 ^ i ∧ l = u n ++ (tk i acc l).2.1
  | [], i, acc, _, h => by rw [tk_end] at h; cases h
  | c :: r, i, acc, hi, h => by
    by_cases h1 : i = 9 ∧ 1 < c.toNat
    · rw [tk_big h1.1 h1.2] at h; cases h
    · by_cases h2 : c.toNat = 0 ∧ 0 < i
      · rw [tk_zero h2.2 h2.1] at h; cases h
      · by_cases h3 : c.toNat < 128
        · rw [tk_last (by omega) (by omega) h3]
          refine ⟨c.toNat, by omega, by simp only []; rw [Nat.mod_eq_of_lt h3], ?_⟩
          rw [u_lt h3, List.singleton_append]
          simp
        · have hm := tk_more (acc := acc) (r := r) (c := c) (i := i) (by omega) (by omega)
          rw [hm] at h ⊢
          obtain ⟨n, hn0, hn, hl⟩ := tk_one r (i + 1) _ (by omega) h
          have hc := UInt8.toNat_lt c
          refine ⟨c.toNat % 128 + n * 128, fun _ => by have := hn0 (by omega); omega, ?_, ?_⟩
          · rw [hn, Nat.pow_succ, Nat.add_mul, Nat.mul_comm (128 ^ i) 128, ← Nat.mul_assoc, Nat.add_assoc]
          · have hn1 := hn0 (by omega)
            rw [u_ge (by omega), show (c.toNat % 128 + n * 128) / 128 = n by omega, show (c.toNat % 128 + n * 128) % 128 + 128 = c.toNat by omega, List.cons_append, ← hl]
            simp
theorem takeU_one (l : List UInt8) (h : (takeU l).2.2 = 0) : u (takeU l).1 ++ (takeU l).2.1 = l := by
  obtain ⟨n, _, hn, hl⟩ := tk_one l 0 0 (by omega) h
  unfold takeU
  rw [show (tk 0 0 l).1 = n by rw [hn]; simp]
  exact hl.symm

theorem takeMost_prop (l : List UInt8) (most : Int) (hm : most ≤ 9223372036854775807) : (takeMost l most).1 ≤ 9223372036854775807 ∧ (takeMost l most).2.1.length ≤ l.length ∧ ((takeMost l most).2.2 = 0 ∨ (takeMost l most).2.2 ≠ 0 ∧ (takeMost l most).1 = 0 ∧ (takeMost l most).2.1 = []) := by
  have hp := takeU_prop l
  unfold takeMost
  by_cases h : (takeU l).2.2 = 0 ∧ (max most 0).toNat < (takeU l).1
  · rw [if_pos h]; exact ⟨Nat.zero_le _, Nat.zero_le _, .inr ⟨by decide, rfl, rfl⟩⟩
  · rw [if_neg h]
    obtain ⟨h1, h2, h3⟩ := hp
    rcases h3 with h3 | ⟨h3, h4, h5⟩
    · exact ⟨by omega, h2, .inl h3⟩
    · exact ⟨by omega, h2, .inr ⟨by omega, h4, h5⟩⟩

theorem mul_fits (k c : Nat) (hk : k ≤ 9) (h9 : k = 9 → c ≤ 1) : c % 128 * 128 ^ k < 18446744073709551616 ∧ (k ≤ 8 → c % 128 * 128 ^ k < 9223372036854775808) := by
  by_cases h : k = 9
  · subst h
    have h1 := h9 rfl
    have := Nat.mul_le_mul_right (128 ^ 9) (show c % 128 ≤ 1 by omega)
    exact ⟨by omega, by omega⟩
  · have hp' : 128 ^ k ≤ 128 ^ 8 := Nat.pow_le_pow_right (by omega) (by omega)
    have := Nat.mul_le_mul (show c % 128 ≤ 127 by omega) hp'
    exact ⟨by omega, by omega⟩
theorem acc_step2 (acc k c p : Nat) (hacc : acc < 128 ^ k) (hk : k ≤ 9) (h9 : k = 9 → c ≤ 1) (hp : p = 128 ^ k) :
    IntKind.u64.wrap ((acc : Int) + IntKind.u64.wrap ((p : Int) * ((c : Int) % 128))) = ((acc + c % 128 * 128 ^ k : Nat) : Int) := by
  subst hp
  have hf := mul_fits k c hk h9
  have e1 : ((128 ^ k : Nat) : Int) * ((c : Int) % 128) = ((c % 128 * 128 ^ k : Nat) : Int) := by
    rw [Nat.mul_comm, Int.natCast_mul]
    congr 1
  rw [e1]
  have hp128 : 128 ^ k ≤ 128 ^ 9 := Nat.pow_le_pow_right (by omega) hk
  have e3 : IntKind.u64.wrap ((c % 128 * 128 ^ k : Nat) : Int) = ((c % 128 * 128 ^ k : Nat) : Int) := by rw [IntKind.wrap_u64]; omega
  have hsum : acc + c % 128 * 128 ^ k < 18446744073709551616 := by
    by_cases h : k = 9
    · subst h
      have h1 := h9 rfl
      have := Nat.mul_le_mul_right (128 ^ 9) (show c % 128 ≤ 1 by omega)
      omega
    · have hp' : 128 ^ k ≤ 128 ^ 8 := Nat.pow_le_pow_right (by omega) (by omega)
      have := hf.2 (by omega)
      omega
  rw [e3, ← Int.natCast_add, IntKind.wrap_u64]
  omega
theorem unit_step (k p : Nat) (hk : k ≤ 8) (hp : p = 128 ^ k) : IntKind.u64.wrap ((p : Int) * 128) = ((128 ^ (k + 1) : Nat) : Int) := by
  subst hp
  have hp' : 128 ^ (k + 1) ≤ 128 ^ 9 := Nat.pow_le_pow_right (by omega) (by omega)
  have e1 : ((128 ^ k : Nat) : Int) * 128 = ((128 ^ (k + 1) : Nat) : Int) := by rw [Nat.pow_succ, Int.natCast_mul]; rfl
  rw [e1, IntKind.wrap_u64]
  clear e1
  generalize 128 ^ (k + 1) = q at hp' ⊢
  omega
theorem takeU_last2 {s : ByteArray} {k acc : Nat} (hk : k < s.size) (HT : Hid (tk k acc (s[k] :: s.data.toList.drop (k + 1)) = takeU s.data.toList))
    (h : k = 9 → s[k].toNat ≤ 1) (h0 : s[k].toNat = 0 → k = 0) (hc : s[k].toNat < 128) (z : Int) (q : Nat) (hz : z = ((acc + s[k].toNat % 128 * 128 ^ k : Nat) : Int)) (hq : q = k + 1) :
    Value.tuple #[.int .u64 (takeU s.data.toList).1, .string (bs (takeU s.data.toList).2.1), .int .i64 (takeU s.data.toList).2.2] = Value.tuple #[.int .u64 z, .string (s.extract q s.size), .int .i64 0] := by
  rw [← HT.out, tk_last h h0 hc, hz, hq, drop_str s (k + 1)]
  rfl

theorem wrap_acc {acc k c : Nat} (hacc : acc < 128 ^ k) (h0 : c = 0) (hk : k = 0) : IntKind.u64.wrap (acc : Int) = ((acc + c % 128 * 128 ^ k : Nat) : Int) := by
  subst h0; subst hk
  rw [IntKind.wrap_u64]
  simp at hacc
  subst hacc
  simp

theorem takeMost_u (n : Nat) (r : List UInt8) (most : Int) (h : n < 18446744073709551616) (hm : (n : Int) ≤ most) : takeMost (u n ++ r) most = (n, r, 0) := by
  unfold takeMost
  rw [takeU_u n r h, if_neg (by simp only []; omega)]

end Go.Bar.Leb

namespace Go.Proofs.YtcopknopifbebaaGreatDoor
open Go.RowKit Go.Bar Go.Bar.Leb

set_option maxHeartbeats 400000 in
set_option maxRecDepth 10000 in
theorem takeUint_any (s : ByteArray) (w : World) (hs : s.size ≤ maxLen) :
    Calls Tryz.prog 92 #[.string s] w (Quiet w (.tuple #[.int .u64 (takeU s.data.toList).1, .string (bs (takeU s.data.toList).2.1), .int .i64 (takeU s.data.toList).2.2])) := by
  unfold maxLen at hs
  go_enter Tryz.func92, Tryz.ntmps92
  go_wp2
  go_loopw [5, 10] (fun v i wr => ∃ k acc : Nat, k ≤ s.size ∧ k ≤ 9 ∧ acc < 128 ^ k ∧ v = .int .u64 acc ∧ i = .int .i64 k ∧ wr = w ∧ tk k acc (s.data.toList.drop k) = takeU s.data.toList)
    (fun _ i _ => s.size - (intOf i).toNat)
  case atStart => exact ⟨0, 0, Nat.zero_le _, by omega, by simp, rfl, rfl, rfl, rfl⟩
  case round =>
    obtain ⟨k, acc, hk, hk9, hacc, rfl, rfl, rfl, htk⟩ := hrel
    have HT := Lib.hid htk
    clear htk
    by_cases hlt : k < s.size
    · rw [drop_cons s k hlt] at HT
      go_wp2
      case roundEnd =>
        have h9 : ¬ (k : Int) = 9 := by assumption
        have h1 : (128 : Int) ≤ s[k].toNat := by assumption
        refine ⟨⟨k + 1, _, by omega, by omega, acc_lt acc k _ hacc, by rw [acc_step acc k _ hacc hk9 (UInt8.toNat_lt _) (by omega) _ (by simp)], by go_num, trivial, ?_⟩, by simp [intOf]; omega⟩
        rw [← HT.out, tk_more (by omega) (by omega)]
      all_goals (try (go_quiet (fail); go_wp2))
      all_goals go_ret3
      all_goals first
        | exact Quiet.of (takeU_bad hlt HT (by omega)) ⟨0, rfl⟩
        | exact Quiet.of (takeU_last hlt hk9 hacc HT (by omega) (by omega) (by omega) _ _ _ (by omega) (by first | (simp; done) | (rw [show k = 9 by omega]; rfl)) (by omega)) ⟨_, rfl⟩
    · go_wp2
      go_ret3
      have e : s.data.toList.drop k = [] := List.drop_eq_nil_of_le (by rw [← size_eq]; omega)
      rw [← HT.out, e]
      exact Quiet.same

theorem takeUint_of {v e : Nat} {r : List UInt8} (s : ByteArray) (h : takeU s.data.toList = (v, r, e)) (w : World) (hs : s.size ≤ maxLen) :
    Calls Tryz.prog 92 #[.string s] w (Quiet w (.tuple #[.int .u64 v, .string (bs r), .int .i64 e])) := by
  have := takeUint_any s w hs
  rw [h] at this
  exact this

theorem bytes_ty : ByteTy Tryz.prog 65 5 :=
  ⟨Tryz.underlying65, Tryz.underlying5, info_parts (show (Tryz.prog.info? 5).map (fun i => (i.zero, i.size, i.bytes)) = some (some (.int .u8 0), 1, 1) by kernel_rfl)⟩

set_option maxHeartbeats 400000 in
set_option maxRecDepth 10000 in
theorem uint_any (V : Value) (xs : List UInt8) (n : Nat) (W : World) (hn : n < 18446744073709551616) (hx : xs.length + 10 ≤ 140737488355328) (hb : BBuf W 5 V xs) :
    Calls Tryz.prog 33 #[V, .int .u64 n] W (RetB W V 5 xs (u n)) := by
  have hul := u_len n hn
  go_enter Tryz.func33, Tryz.ntmps33
  go_wp2
  go_loopw [0, 1] (fun b m wr => ∃ (k : Nat) (ys : List UInt8), k < 18446744073709551616 ∧ m = .int .u64 k ∧ BApp W V 5 xs wr b ys ∧ ys ++ u k = u n) (fun _ m _ => (intOf m).toNat)
  case atStart => exact ⟨n, [], hn, rfl, BApp.start' hb, rfl⟩
  case round =>
    obtain ⟨k, ys, hk, rfl, happ, hys⟩ := hrel
    have HY := Lib.hid hys
    have hyl : ys.length + (u k).length ≤ 10 := by rw [← List.length_append, hys]; exact hul
    have hup := u_pos k
    clear hys
    by_cases hlt : 127 < k
    · go_wp2_with (at_builtin; refine wpList_append_byte rfl (.tmp 9) (.tmp 13) 65 rfl bytes_ty _ (byte_hi k) rfl happ rfl (by omega) ?_; intro v' w' happ'; clear happ)
      go_roundw
      case rel => exact ⟨k / 128, _, by omega, by go_num, happ', by rw [← HY.out, u_ge (n := k) (by omega), List.append_assoc]; rfl⟩
      case measure => simp [intOf]; omega
    · go_wp2_with (at_builtin; refine wpList_append_byte rfl (.tmp 15) (.tmp 18) 65 rfl bytes_ty _ (byte_lo k (by omega)) rfl happ rfl (by omega) ?_; intro v' w' happ'; clear happ)
      go_ret
      exact ⟨v', rfl, by rw [← HY.out, u_lt (by omega)]; exact happ'⟩

set_option maxHeartbeats 400000 in
theorem takeMost_any (s : ByteArray) (most : Int) (w : World) (hs : s.size ≤ maxLen) (h1 : -9223372036854775808 ≤ most) (h2 : most ≤ 9223372036854775807) :
    Calls Tryz.prog 74 #[.string s, .int .i64 most] w (Quiet w (.tuple #[.int .i64 (takeMost s.data.toList most).1, .string (bs (takeMost s.data.toList most).2.1), .int .i64 (takeMost s.data.toList most).2.2])) := by
  have hp := takeU_prop s.data.toList
  unfold takeMost
  obtain ⟨v, r, er, ht⟩ : ∃ v r er, takeU s.data.toList = (v, r, er) := ⟨_, _, _, rfl⟩
  have HT := Lib.hid ht
  rw [ht] at hp ⊢
  clear ht
  obtain ⟨hv, _, he⟩ := hp
  simp only [] at hv he ⊢
  rcases he with rfl | ⟨he, rfl, rfl⟩
  · by_cases hm : (max most 0).toNat < v
    · rw [if_pos ⟨rfl, hm⟩]
      go_enter Tryz.func74, Tryz.ntmps74
      go_wp2_with fail
      refine (takeUint_of s HT.out _ hs).mono ?_
      rintro e w' ⟨rfl, n, rfl⟩
      go_wp2_with fail
      all_goals go_ret3
      all_goals exact ⟨rfl, _, rfl⟩
    · rw [if_neg (fun h => hm h.2)]
      have hv2 : v ≤ 9223372036854775807 := by omega
      go_enter Tryz.func74, Tryz.ntmps74
      go_wp2_with fail
      refine (takeUint_of s HT.out _ hs).mono ?_
      rintro e w' ⟨rfl, n, rfl⟩
      go_wp2_with fail
      all_goals go_ret3
      all_goals exact ⟨rfl, _, rfl⟩
  · rw [if_neg (fun h => by omega)]
    have hb : ((er : Int) == 0) = false := by rw [beq_eq_false_iff_ne]; omega
    clear he
    go_enter Tryz.func74, Tryz.ntmps74
    go_wp2_with fail
    refine (takeUint_of s HT.out _ hs).mono ?_
    rintro e w' ⟨rfl, n, rfl⟩
    go_wp2_with fail
    all_goals go_ret3
    all_goals exact ⟨rfl, _, rfl⟩

theorem takeMost_of {v e : Nat} {r : List UInt8} (s : ByteArray) (most : Int) (h : takeMost s.data.toList most = (v, r, e)) (w : World) (hs : s.size ≤ maxLen) (h1 : -9223372036854775808 ≤ most) (h2 : most ≤ 9223372036854775807) :
    Calls Tryz.prog 74 #[.string s, .int .i64 most] w (Quiet w (.tuple #[.int .i64 v, .string (bs r), .int .i64 e])) := by
  have := takeMost_any s most w hs h1 h2
  rw [h] at this
  exact this

set_option maxHeartbeats 400000 in
theorem takeByte_none (s : ByteArray) (w : World) (h0 : s.data.toList = []) :
    Calls Tryz.prog 73 #[.string s] w (Quiet w (.tuple #[.int .u8 0, .string (bs []), .int .i64 2])) := by
  obtain rfl : s = bs [] := by rw [← bs_eta s, h0]
  clear h0
  have he : (bs []).toList.isEmpty = true := bs_isEmpty []
  go_enter Tryz.func73, Tryz.ntmps73
  go_wp2_with fail
  all_goals go_ret3
  all_goals exact ⟨rfl, 0, rfl⟩

set_option maxHeartbeats 400000 in
theorem takeByte_some (s : ByteArray) (w : World) (c : UInt8) (r : List UInt8) (hs : s.size ≤ maxLen) (h0 : s.data.toList = c :: r) :
    Calls Tryz.prog 73 #[.string s] w (Quiet w (.tuple #[.int .u8 c.toNat, .string (bs r), .int .i64 0])) := by
  obtain rfl : s = bs (c :: r) := by rw [← bs_eta s, h0]
  unfold maxLen at hs
  clear h0
  have hsz : (bs (c :: r)).size = r.length + 1 := rfl
  have he : (bs (c :: r)).toList.isEmpty = false := bs_isEmpty _
  go_enter Tryz.func73, Tryz.ntmps73
  go_wp2_with fail
  go_quiet (fail)
  go_wp2_with fail
  go_ret3
  refine ⟨?_, _, rfl⟩
  have e2 : (bs (c :: r)).extract 1 (r.length + 1) = bs r := by
    rw [bs_extract]
    simp
  rw [← e2]
  rfl

theorem fix3 : u 300 = [172, 2] := by rw [u_ge (by omega), u_lt (by omega)]; rfl

end Go.Proofs.YtcopknopifbebaaGreatDoor

namespace Go.Bar.Frm
open Go.RowKit Go.Bar Go.Bar.Leb

def bstep (c b : Nat) : Nat := if (c + b) % 2 = 1 then (c / 2) ^^^ 2197175160 else c / 2
def bsteps : Nat → Nat → Nat → Nat
  | 0, c, _ => c
  | n + 1, c, b => bstep (bsteps n c b) (b / 2 ^ n)
def crc : Nat → List UInt8 → Nat
  | c, [] => c
  | c, x :: l => crc (bsteps 8 c x.toNat) l
def no (c : Nat) : Nat := 4294967295 - c
def more (s : Nat) (l : List UInt8) : Nat := no (crc (no s) l)
def sum (l : List UInt8) : Nat := more 0 l

theorem bstep_lt {c b : Nat} (h : c < 4294967296) : bstep c b < 4294967296 := by
  unfold bstep
  split
  · exact Nat.xor_lt_two_pow (n := 32) (by omega) (by omega)
  · omega
theorem bsteps_lt : ∀ (n : Nat) {c b : Nat}, c < 4294967296 → bsteps n c b < 4294967296
  | 0, _, _, h => h
  | n + 1, _, _, h => bstep_lt (bsteps_lt n h)
theorem crc_lt : ∀ (l : List UInt8) {c : Nat}, c < 4294967296 → crc c l < 4294967296
  | [], _, h => h
  | _ :: l, _, h => crc_lt l (bsteps_lt 8 h)
theorem no_lt (c : Nat) : no c < 4294967296 := by unfold no; omega
theorem no_no {c : Nat} (h : c < 4294967296) : no (no c) = c := by unfold no; omega
theorem sum_lt (l : List UInt8) : sum l < 4294967296 := no_lt _
theorem crc_append : ∀ (l m : List UInt8) (c : Nat), crc c (l ++ m) = crc (crc c l) m
  | [], _, _ => rfl
  | _ :: l, m, _ => crc_append l m _
theorem more_more (s : Nat) (l m : List UInt8) : more (more s l) m = more s (l ++ m) := by
  unfold more
  rw [no_no (crc_lt l (no_lt _)), crc_append]
theorem more_sum (l m : List UInt8) : more (sum l) m = sum (l ++ m) := more_more 0 l m
theorem crc_snoc (l : List UInt8) (x : UInt8) (c : Nat) : crc c (l ++ [x]) = bsteps 8 (crc c l) x.toNat := crc_append l [x] c

def fs (x : Nat) : Nat := if x % 2 = 1 then (x / 2) ^^^ 2197175160 else x / 2

abbrev Rc := UInt8 × List UInt8
def sum4 (n : Nat) : List UInt8 := [UInt8.ofNat n, UInt8.ofNat (n / 256), UInt8.ofNat (n / 65536), UInt8.ofNat (n / 16777216)]
def num4 (l : List UInt8) : Nat := (l.getD 0 0).toNat + (l.getD 1 0).toNat * 256 + (l.getD 2 0).toNat * 65536 + (l.getD 3 0).toNat * 16777216
def rsum (r : Rc) : Nat := sum (r.1 :: r.2)
def rec (r : Rc) : List UInt8 := r.1 :: u r.2.length ++ sum4 (rsum r) ++ r.2
theorem num4_sum4 (n : Nat) (h : n < 4294967296) (l : List UInt8) : num4 (sum4 n ++ l) = n := by
  simp [num4, sum4]
  omega
theorem sum4_num4 (l : List UInt8) (h : 4 ≤ l.length) : sum4 (num4 l) = l.take 4 := by
  match l, h with
  | a :: b :: c :: d :: l, _ =>
    have ha := UInt8.toNat_lt a
    have hb := UInt8.toNat_lt b
    have hc := UInt8.toNat_lt c
    have hd := UInt8.toNat_lt d
    simp only [num4, sum4, List.getD_cons_zero, List.getD_cons_succ, List.take_succ_cons, List.take_zero, List.cons.injEq, and_true]
    refine ⟨?_, ?_, ?_, ?_⟩ <;> apply UInt8.toNat_inj.1 <;> simp <;> omega
theorem sum4_len (n : Nat) : (sum4 n).length = 4 := rfl
theorem rec_len (r : Rc) : (rec r).length = 5 + (u r.2.length).length + r.2.length := by
  simp [rec, sum4_len]; omega

def z : Rc := (0, [])
def next : List UInt8 → Rc × List UInt8 × Nat
  | [] => (z, [], 2)
  | k :: l =>
    if (takeMost l 1048576).2.2 ≠ 0 then (z, [], (takeMost l 1048576).2.2)
    else if (takeMost l 1048576).2.1.length < 4 + (takeMost l 1048576).1 then (z, [], 2)
    else if rsum (k, ((takeMost l 1048576).2.1.drop 4).take (takeMost l 1048576).1) ≠ num4 (takeMost l 1048576).2.1 then (z, [], 4)
    else ((k, ((takeMost l 1048576).2.1.drop 4).take (takeMost l 1048576).1), (takeMost l 1048576).2.1.drop (4 + (takeMost l 1048576).1), 0)

theorem takeMost_one (l : List UInt8) (m : Int) (h : (takeMost l m).2.2 = 0) : u (takeMost l m).1 ++ (takeMost l m).2.1 = l := by
  unfold takeMost at h ⊢
  split
  · rename_i hc; rw [if_pos hc] at h; cases h
  · rename_i hc; rw [if_neg hc] at h; exact takeU_one l h
theorem takeMost_le (l : List UInt8) (m : Nat) (h : (takeMost l m).2.2 = 0) : (takeMost l m).1 ≤ m := by
  unfold takeMost at h ⊢
  split
  · omega
  · rename_i hc; rw [if_neg hc] at h; omega

theorem next_one (l : List UInt8) (h : (next l).2.2 = 0) : rec (next l).1 ++ (next l).2.1 = l ∧ (next l).1.2.length ≤ 1048576 := by
  match l with
  | [] => simp [next] at h
  | k :: l =>
    rw [next] at h ⊢
    by_cases h1 : (takeMost l 1048576).2.2 ≠ 0
    · rw [if_pos h1] at h; exact absurd h h1
    · rw [if_neg h1] at h ⊢
      have h1 : (takeMost l 1048576).2.2 = 0 := by omega
      have ho := takeMost_one l 1048576 h1
      have hl := takeMost_le l 1048576 h1
      by_cases h2 : (takeMost l 1048576).2.1.length < 4 + (takeMost l 1048576).1
      · rw [if_pos h2] at h; cases h
      · rw [if_neg h2] at h ⊢
        by_cases h3 : rsum (k, ((takeMost l 1048576).2.1.drop 4).take (takeMost l 1048576).1) ≠ num4 (takeMost l 1048576).2.1
        · rw [if_pos h3] at h; cases h
        · rw [if_neg h3]
          have h3 : rsum (k, ((takeMost l 1048576).2.1.drop 4).take (takeMost l 1048576).1) = num4 (takeMost l 1048576).2.1 := by
            rcases Nat.decEq (rsum (k, ((takeMost l 1048576).2.1.drop 4).take (takeMost l 1048576).1)) (num4 (takeMost l 1048576).2.1) with h | h
            · exact absurd h h3
            · exact h
          generalize (takeMost l 1048576).1 = n at *
          generalize (takeMost l 1048576).2.1 = r at *
          have hd : ((r.drop 4).take n).length = n := by rw [List.length_take, List.length_drop]; omega
          refine ⟨?_, by rw [hd]; exact hl⟩
          simp only [rec, hd, h3]
          rw [sum4_num4 r (by omega), List.append_assoc, List.append_assoc, show r.drop (4 + n) = (r.drop 4).drop n by rw [List.drop_drop], List.take_append_drop, List.cons_append, List.take_append_drop, ho]
theorem next_left (l : List UInt8) (h : (next l).2.2 = 0) : (next l).2.1.length + 6 ≤ l.length := by
  obtain ⟨h1, _⟩ := next_one l h
  have := congrArg List.length h1
  rw [List.length_append, rec_len] at this
  have := u_pos (next l).1.2.length
  omega
theorem next_rec (r : Rc) (t : List UInt8) (h : r.2.length ≤ 1048576) : next (rec r ++ t) = (r, t, 0) := by
  obtain ⟨k, d⟩ := r
  simp only at h
  have e : rec (k, d) ++ t = k :: (u d.length ++ (sum4 (rsum (k, d)) ++ (d ++ t))) := by simp [rec]
  have ht := takeMost_u d.length (sum4 (rsum (k, d)) ++ (d ++ t)) 1048576 (by omega) (by omega)
  rw [e, next, ht]
  have hl : (sum4 (rsum (k, d)) ++ (d ++ t)).length = 4 + d.length + t.length := by simp [sum4_len]; omega
  have hd4 : (sum4 (rsum (k, d)) ++ (d ++ t)).drop 4 = d ++ t := by rw [List.drop_append_of_le_length (by simp [sum4_len]), List.drop_of_length_le (by simp [sum4_len]), List.nil_append]
  rw [if_neg (by simp), if_neg (by simp only; omega)]
  simp only [hd4, List.take_left']
  rw [if_neg (by simp [num4_sum4 _ (show rsum (k, d) < 4294967296 from sum_lt _)])]
  rw [show (4 + d.length) = 4 + d.length from rfl, ← List.drop_drop, hd4, List.drop_left]

theorem next_cut (r : Rc) (j : Nat) (h : r.2.length ≤ 1048576) (hj : j < (rec r).length) : (next ((rec r).take j)).2.2 ≠ 0 := by
  intro h0
  obtain ⟨h1, _⟩ := next_one _ h0
  have h2 : rec (next ((rec r).take j)).1 ++ ((next ((rec r).take j)).2.1 ++ (rec r).drop j) = rec r := by
    rw [← List.append_assoc, h1, List.take_append_drop]
  have h3 := next_rec (next ((rec r).take j)).1 ((next ((rec r).take j)).2.1 ++ (rec r).drop j) (next_one _ h0).2
  rw [h2] at h3
  have h4 := next_rec r [] h
  rw [List.append_nil] at h4
  rw [h4] at h3
  have h5 := congrArg (fun x => x.2.1.length) h3
  simp at h5
  omega

def all : Nat → List UInt8 → List Rc × List UInt8
  | 0, l => ([], l)
  | f + 1, l => if (next l).2.2 = 0 then ((next l).1 :: (all f (next l).2.1).1, (all f (next l).2.1).2) else ([], l)
theorem all_stop {f : Nat} {l : List UInt8} (h : (next l).2.2 ≠ 0) : all f l = ([], l) := by
  cases f with
  | zero => rfl
  | succ f => rw [all, if_neg h]
theorem all_go {f : Nat} {l : List UInt8} (h : (next l).2.2 = 0) : all (f + 1) l = ((next l).1 :: (all f (next l).2.1).1, (all f (next l).2.1).2) := by rw [all, if_pos h]
theorem all_fuel : ∀ (f g : Nat) (l : List UInt8), l.length ≤ f → l.length ≤ g → all f l = all g l
  | 0, g, l, hf, _ => by
    obtain rfl := List.eq_nil_of_length_eq_zero (by omega : l.length = 0)
    rw [all_stop (by simp [next]), all_stop (by simp [next])]
  | f + 1, 0, l, _, hg => by
    obtain rfl := List.eq_nil_of_length_eq_zero (by omega : l.length = 0)
    rw [all_stop (by simp [next]), all_stop (by simp [next])]
  | f + 1, g + 1, l, hf, hg => by
    by_cases h : (next l).2.2 = 0
    · have := next_left l h
      rw [all_go h, all_go h, all_fuel f g _ (by omega) (by omega)]
    · rw [all_stop h, all_stop h]
def recs (l : List UInt8) : List Rc := (all l.length l).1
def left (l : List UInt8) : List UInt8 := (all l.length l).2
theorem recs_stop {l : List UInt8} (h : (next l).2.2 ≠ 0) : recs l = [] ∧ left l = l := by
  unfold recs left
  rw [all_stop h]
  exact ⟨rfl, rfl⟩
theorem recs_go {l : List UInt8} (h : (next l).2.2 = 0) : recs l = (next l).1 :: recs (next l).2.1 ∧ left l = left (next l).2.1 := by
  unfold recs left
  have := next_left l h
  obtain ⟨n, hn⟩ : ∃ n, l.length = n + 1 := ⟨l.length - 1, by omega⟩
  rw [hn, all_go h, all_fuel n _ _ (by omega) (Nat.le_refl _)]
  exact ⟨rfl, rfl⟩
theorem left_le (l : List UInt8) : (left l).length ≤ l.length := by
  suffices h : ∀ n (l : List UInt8), l.length ≤ n → (left l).length ≤ l.length from h _ l (Nat.le_refl _)
  intro n
  induction n with
  | zero =>
    intro l hl
    obtain rfl := List.eq_nil_of_length_eq_zero (by omega : l.length = 0)
    exact Nat.le_refl _
  | succ n ih =>
    intro l hl
    by_cases h : (next l).2.2 = 0
    · have h1 := next_left l h
      have := ih (next l).2.1 (by omega)
      rw [(recs_go h).2]
      omega
    · rw [(recs_stop h).2]
      exact Nat.le_refl _
def laid (rs : List Rc) : List UInt8 := rs.flatMap rec
theorem laid_cons (r : Rc) (rs : List Rc) : laid (r :: rs) = rec r ++ laid rs := by simp [laid]
theorem laid_snoc (rs : List Rc) (r : Rc) : laid (rs ++ [r]) = laid rs ++ rec r := by simp [laid]
theorem recs_laid : ∀ (rs : List Rc) (t : List UInt8), (∀ r ∈ rs, r.2.length ≤ 1048576) → (next t).2.2 ≠ 0 → recs (laid rs ++ t) = rs ∧ left (laid rs ++ t) = t
  | [], t, _, ht => by simpa [laid] using recs_stop ht
  | r :: rs, t, h, ht => by
    have h1 := next_rec r (laid rs ++ t) (h r (by simp))
    rw [laid_cons, List.append_assoc]
    obtain ⟨h2, h3⟩ := recs_go (l := rec r ++ (laid rs ++ t)) (by rw [h1])
    obtain ⟨h4, h5⟩ := recs_laid rs t (fun r hr => h r (by simp [hr])) ht
    rw [h1] at h2 h3
    exact ⟨by rw [h2, h4], by rw [h3, h5]⟩
def whole (rs : List Rc) (cut : Nat) : Nat × Nat :=
  match rs with
  | [] => (0, 0)
  | r :: rs => if (rec r).length ≤ cut then ((whole rs (cut - (rec r).length)).1 + 1, (whole rs (cut - (rec r).length)).2 + (rec r).length) else (0, 0)
theorem whole_le : ∀ (rs : List Rc) (cut : Nat), (whole rs cut).1 ≤ rs.length
  | [], _ => Nat.le_refl _
  | r :: rs, cut => by
    rw [whole]
    split
    · have := whole_le rs (cut - (rec r).length); simp; exact this
    · exact Nat.zero_le _
theorem next_nil : (next []).2.2 ≠ 0 := by simp [next]
theorem recs_torn : ∀ (rs : List Rc) (cut : Nat), (∀ r ∈ rs, r.2.length ≤ 1048576) → cut ≤ (laid rs).length → recs ((laid rs).take cut) = rs.take (whole rs cut).1 ∧ (left ((laid rs).take cut)).length + (whole rs cut).2 = cut
  | [], cut, _, hc => by
    have h0 : cut = 0 := by simp [laid] at hc; exact hc
    subst h0
    obtain ⟨h1, h2⟩ := recs_stop next_nil
    simp [laid, whole, h1, h2]
  | r :: rs, cut, h, hc => by
    have hr := h r (by simp)
    rw [laid_cons, whole]
    by_cases hlen : (rec r).length ≤ cut
    · rw [if_pos hlen]
      have h1 := next_rec r ((laid rs).take (cut - (rec r).length)) hr
      have e : (rec r ++ laid rs).take cut = rec r ++ (laid rs).take (cut - (rec r).length) := by
        rw [List.take_append, List.take_of_length_le hlen]
      obtain ⟨h2, h3⟩ := recs_go (l := rec r ++ (laid rs).take (cut - (rec r).length)) (by rw [h1])
      obtain ⟨h4, h5⟩ := recs_torn rs (cut - (rec r).length) (fun r hr => h r (by simp [hr])) (by rw [laid_cons, List.length_append] at hc; omega)
      rw [h1] at h2 h3
      rw [e, h2, h3, h4]
      exact ⟨rfl, by simp only; omega⟩
    · rw [if_neg hlen]
      have e : (rec r ++ laid rs).take cut = (rec r).take cut := by rw [List.take_append_of_le_length (by omega)]
      have hn : (next ((rec r).take cut)).2.2 ≠ 0 := next_cut r cut hr (by omega)
      obtain ⟨h1, h2⟩ := recs_stop hn
      rw [e, h1, h2]
      refine ⟨by simp, ?_⟩
      rw [List.length_take]; simp only; omega

end Go.Bar.Frm

namespace Go.Proofs.YtcopknopifbebaaGreatDoor
open Go.RowKit Go.Bar Go.Bar.Leb Go.Bar.Frm

theorem u32_low (c b k : Nat) (hc : c < 4294967296) (hb : b < 256) : bits .and .u32 (bits .xor .u32 (c : Int) ((b / 2 ^ k : Nat) : Int)) 1 = (((c + b / 2 ^ k) % 2 : Nat) : Int) := by
  have h1 : b / 2 ^ k < 256 := Nat.lt_of_le_of_lt (Nat.div_le_self _ _) hb
  rw [u32_xor_nat c _ hc (by omega)]
  have h2 := Nat.xor_lt_two_pow (n := 32) (x := c) (y := b / 2 ^ k) (by omega) (by omega)
  have := u32_and_nat (c ^^^ (b / 2 ^ k)) 1 h2 (by omega)
  rw [show ((1 : Nat) : Int) = 1 from rfl] at this
  rw [this, Nat.and_one_is_mod]
  congr 1
  have := @Nat.xor_mod_two_eq_one c (b / 2 ^ k)
  omega

theorem more_cast (b j : Nat) (hb : b < 256) : (b : Int) / 2 ^ j % 4294967296 = ((b / 2 ^ j : Nat) : Int) := by
  have h1 : b / 2 ^ j < 256 := Nat.lt_of_le_of_lt (Nat.div_le_self _ _) hb
  have e : (b : Int) / 2 ^ j = ((b / 2 ^ j : Nat) : Int) := by
    rw [Int.natCast_ediv, Int.natCast_pow]; rfl
  rw [e]
  clear e
  generalize b / 2 ^ j = x at *
  omega
theorem more_yes {C b j : Nat} (hC : C < 4294967296) (hb : b < 256) (h : (bits .and .u32 (bits .xor .u32 (C : Int) ((b : Int) / 2 ^ j % 4294967296)) 1 == 1) = true) :
    bits .xor .u32 ((C : Int) / 2) 2197175160 = ((bstep C (b / 2 ^ j) : Nat) : Int) := by
  rw [more_cast b j hb, u32_low C b j hC hb, beq_iff_eq] at h
  unfold bstep
  rw [if_pos (by omega)]
  have := u32_xor_nat (C / 2) 2197175160 (by omega) (by omega)
  rw [← this]
  rfl
theorem more_no {C b j : Nat} (hC : C < 4294967296) (hb : b < 256) (h : (bits .and .u32 (bits .xor .u32 (C : Int) ((b : Int) / 2 ^ j % 4294967296)) 1 == 1) = false) :
    (C : Int) / 2 = ((bstep C (b / 2 ^ j) : Nat) : Int) := by
  rw [more_cast b j hb, u32_low C b j hC hb, beq_eq_false_iff_ne] at h
  unfold bstep
  rw [if_neg (by omega)]
  rfl
theorem no_bits (n : Nat) (h : n < 4294967296) : bits .xor .u32 IntKind.u32.max (n : Int) = ((no n : Nat) : Int) := by
  have h1 := u32_xor_nat 4294967295 n (by omega) h
  have e : IntKind.u32.max = ((4294967295 : Nat) : Int) := rfl
  rw [e, h1]
  unfold no
  congr 1
  apply Nat.eq_of_testBit_eq
  intro i
  rw [Nat.testBit_xor]
  have h2 := Nat.testBit_two_pow_sub_succ (x := n) (n := 32) h i
  rw [show 2 ^ 32 - (n + 1) = 4294967295 - n by omega] at h2
  rw [h2]
  have h3 := Nat.testBit_two_pow_sub_one 32 i
  rw [show (2 : Nat) ^ 32 - 1 = 4294967295 from rfl] at h3
  rw [h3]
  by_cases hi : i < 32
  · simp [hi]
  · have := Nat.testBit_lt_two_pow (x := n) (i := i) (Nat.lt_of_lt_of_le h (show 4294967296 ≤ 2 ^ i from Nat.pow_le_pow_right (show 0 < 2 by decide) (show 32 ≤ i by omega)))
    simp [hi, this]

set_option maxHeartbeats 400000 in
set_option maxRecDepth 10000 in
theorem more_any (s : ByteArray) (n : Nat) (w : World) (hs : s.size ≤ maxLen) (hn : n < 4294967296) :
    Calls Tryz.prog 57 #[.int .u32 n, .string s] w fun e w' => e = .returned (.int .u32 (more n s.data.toList)) ∧ w = w' := by
  unfold maxLen at hs
  go_enter Tryz.func57, Tryz.ntmps57
  go_wp2
  go_loop [5, 13] (fun c i => ∃ k : Nat, k ≤ s.size ∧ i = .int .i64 k ∧ c = .int .u32 (crc (no n) (s.data.toList.take k))) (fun _ i => s.size - (intOf i).toNat)
  case atStart => exact ⟨0, Nat.zero_le _, rfl, by rw [no_bits n hn]; rfl⟩
  case round =>
    obtain ⟨k, hk, rfl, rfl⟩ := hrel
    have hC := crc_lt (s.data.toList.take k) (no_lt n)
    by_cases hlt : k < s.size
    · go_wp2
      go_loop [5, 16] (fun c i => ∃ j : Nat, j ≤ 8 ∧ i = .int .i64 j ∧ c = .int .u32 (bsteps j (crc (no n) (s.data.toList.take k)) s[k].toNat)) (fun _ i => 8 - (intOf i).toNat)
      case atStart => exact ⟨0, by omega, rfl, rfl⟩
      case round =>
        obtain ⟨j, hj, rfl, rfl⟩ := hrel
        have hD := bsteps_lt j (b := s[k].toNat) hC
        by_cases hj8 : j < 8
        · go_wp2
          all_goals
            go_round
            case rel => exact ⟨j + 1, by omega, by go_num, by first | rw [more_yes hD (UInt8.toNat_lt _) (by assumption)]; rfl | rw [more_no hD (UInt8.toNat_lt _) (by assumption)]; rfl⟩
            case measure => simp [intOf]; omega
        · obtain rfl : j = 8 := by omega
          have e := crc_snoc (s.data.toList.take k) s[k] (no n)
          have e2 : s.data.toList.take k ++ [s[k]] = s.data.toList.take (k + 1) := by
            rw [List.take_succ_eq_append_getElem (by simpa using hlt)]; rfl
          rw [e2] at e
          have HE := Lib.hid e
          clear e e2
          go_wp2
          go_round
          case rel => exact ⟨k + 1, by omega, by go_num, by rw [HE.out]⟩
          case measure => simp [intOf]; omega
    · go_wp2
      go_ret
      rw [no_bits _ hC, List.take_of_length_le (by rw [← size_eq]; omega)]
      exact ⟨rfl, rfl⟩

theorem more_of {m : Nat} (s : ByteArray) (n : Nat) (w : World) (hs : s.size ≤ maxLen) (hn : n < 4294967296) (h : more n s.data.toList = m) :
    Calls Tryz.prog 57 #[.int .u32 n, .string s] w fun e w' => e = .returned (.int .u32 m) ∧ w = w' := by
  rw [← h]
  exact more_any s n w hs hn

set_option maxHeartbeats 400000 in
theorem sum_any (s : ByteArray) (w : World) (hs : s.size ≤ maxLen) :
    Calls Tryz.prog 34 #[.string s] w fun e w' => e = .returned (.int .u32 (sum s.data.toList)) ∧ w = w' := by
  go_enter Tryz.func34, Tryz.ntmps34
  go_wp2_with fail
  refine (more_any s 0 _ hs (by omega)).mono ?_
  rintro e w' ⟨rfl, rfl⟩
  go_wp2_with fail
  go_ret
  exact ⟨rfl, rfl⟩

attribute [local go_sem ↓] Go.wp_at_zero Go.wp_at_succ

theorem byte4 (n : Nat) : bcs (sum4 n) = [.int .u8 ((n % 256 : Nat) : Int), .int .u8 ((n / 256 % 256 : Nat) : Int), .int .u8 ((n / 65536 % 256 : Nat) : Int), .int .u8 ((n / 16777216 % 256 : Nat) : Int)] := by
  simp [bcs, sum4]

theorem src4 {P : Program} {t e : TypeId} (hT : P.underlying t = some (.slice e)) (w : World) (n : Nat) (z0 z1 z2 z3 : Int) (h0 : z0 = ((n % 256 : Nat) : Int)) (h1 : z1 = ((n / 256 % 256 : Nat) : Int)) (h2 : z2 = ((n / 65536 % 256 : Nat) : Int)) (h3 : z3 = ((n / 16777216 % 256 : Nat) : Int)) :
    Src P 1 t (.slice (some ⟨w.heap.size, 0, none⟩) 4 4) (sum4 n).length (bcs (sum4 n)) (w.alloc (.cells #[.int .u8 z0, .int .u8 z1, .int .u8 z2, .int .u8 z3] e)) := by
  subst h0; subst h1; subst h2; subst h3
  refine Src.ofSlice _ hT _ _ _ _ rfl (fun j u hu => ?_) (fun u hu => ?_)
  · rw [byte4] at hu
    rw [addr_add, World.cell?_alloc_new, Nat.zero_add, ← hu]
    rcases j with _ | _ | _ | _ | j <;> rfl
  · simp only [bcs, List.mem_map] at hu
    obtain ⟨b, _, rfl⟩ := hu
    rfl

set_option maxHeartbeats 1000000 in
set_option maxRecDepth 10000 in
theorem append_any (V : Value) (xs : List UInt8) (k : UInt8) (d : ByteArray) (W : World) (hx : xs.length + 15 + d.size ≤ 140737488355328) (hb : BBuf W 5 V xs) :
    Calls Tryz.prog 47 #[V, .agg #[.int .u8 k.toNat, .string d]] W (RetB W V 5 xs (rec (k, d.data.toList))) := by
  have hul := u_len d.size (by omega)
  have hc1 := conv_one bytes_ty 9 Tryz.underlying9 (W.alloc (.cells #[.int .u8 k.toNat, .string d] 34)).drew (k.toNat : Int) k rfl
  rw [show (World.alloc (W.alloc (.cells #[.int .u8 k.toNat, .string d] 34)).drew (.cells #[.int .u8 k.toNat] 5)) = ((W.alloc (.cells #[.int .u8 k.toNat, .string d] 34)).alloc (.cells #[.int .u8 k.toNat] 5)).drew from rfl, show (W.alloc (.cells #[.int .u8 k.toNat, .string d] 34)).drew.heap.size = W.heap.size + 1 by simp] at hc1
  have hd : d.size ≤ maxLen := by unfold maxLen; omega
  have hs1 : (bs [k]).size ≤ maxLen := (by decide : 1 ≤ maxLen)
  have hs2 := sum_lt [k]
  have hrs : rsum (k, d.data.toList) < 4294967296 := sum_lt _
  go_enter Tryz.func47, Tryz.ntmps47
  go_upto_region 1 with fail
  go_cut [5] (fun s5 wx => s5 = .int .u32 (rsum (k, d.data.toList)) ∧ Below W.heap.size W wx ∧ W.heap.size < wx.heap.size ∧ wx.cell? ⟨W.heap.size, 0, none⟩ = some (.int .u8 k.toNat) ∧ wx.cell? ⟨W.heap.size, 1, none⟩ = some (.string d))
  case first =>
    go_region_with (first
      | (go_at_call 34; refine (sum_any (bs [k]) _ hs1).mono ?_; rintro e w' ⟨rfl, rfl⟩)
      | (go_at_call 57; refine (more_any d (sum [k]) _ hd hs2).mono ?_; rintro e w' ⟨rfl, rfl⟩))
    all_goals (go_wp2_with fail; go_meet; exact ⟨by rw [more_sum]; rfl, (((Below.refl _ _).alloc (Nat.le_refl _) _).alloc (by simp) _).drew, by simp; omega, by simp, by simp⟩)
  case rest =>
    obtain ⟨rfl, hbl, hsz, c0, c1⟩ := hcut
    clear hc1
    have hb0 := hb.below hbl
    have happ := BApp.start' hb0
    go_wp2_with (at_builtin; refine wpList_append_byte rfl (.tmp 14) (.tmp 17) 65 rfl bytes_ty _ rfl rfl happ rfl (by simp; omega) ?_; intro v1 w1 happ1; clear happ; have c1' := (happ1.cell_new hb (Nat.le_refl _) hsz).trans c1; clear c0 c1 hb0)
    refine (uint_any v1 (xs ++ [k]) d.size _ (by omega) (by rw [List.length_append]; simp; omega) happ1.buf).mono ?_
    rintro e w2 ⟨v2, rfl, happ2⟩
    have happ2 := happ1.trans happ2
    have c2 := (happ2.cell_new hb (Nat.le_refl _) hsz).trans (((happ1.cell_new hb (Nat.le_refl _) hsz).symm).trans c1')
    clear happ1 c1'
    have hsrc := src4 (P := Tryz.prog) Tryz.underlying65 w2 (rsum (k, d.data.toList)) ((rsum (k, d.data.toList) : Int) % 256) ((rsum (k, d.data.toList) : Int) / 256 % 256) ((rsum (k, d.data.toList) : Int) / 65536 % 256) ((rsum (k, d.data.toList) : Int) / 16777216) (by omega) (by omega) (by omega) (by omega)
    have HS := Lib.hid hsrc
    clear hsrc
    go_wp2_with (first
      | (at_builtin; refine wpList_append_src rfl (.tmp 25) (.tmp 37) 65 65 rfl bytes_ty rfl (happ2.alloc _) rfl HS.out (by simp [sum4_len]; omega) ?_; intro v3 w3 happ3; have c3 := (happ3.cell_new hb (Nat.le_refl _) hsz).trans (((happ2.cell_new hb (Nat.le_refl _) hsz).symm).trans c2); clear HS c2 happ2)
      | (at_builtin; refine wpList_append_str rfl (.tmp 39) (.tmp 41) 65 9 rfl bytes_ty Tryz.underlying9 d rfl happ3 rfl (by simp [sum4_len]; omega) ?_; intro v4 w4 happ4))
    go_ret
    exact ⟨v4, rfl, by
      have := happ4.after hbl hb
      have e : [] ++ [k] ++ u d.size ++ sum4 (rsum (k, d.data.toList)) ++ d.data.toList = rec (k, d.data.toList) := by simp [rec]
      rw [e] at this
      exact this⟩

end Go.Proofs.YtcopknopifbebaaGreatDoor
