/-
  Plain mathematics of layer 1 (LEB128 numbers and texts): no program in sight; no condition.
-/
import Derived.Test.YtcopknopifbebaaGreatDoorZLib1
import Derived.Lib.Strings
import Derived.Test.YtcopknopifbebaaGreatDoorZLib17
import Derived.Lib.ItoaNum
import Derived.Lib.AtoiAll

namespace Go.Bar.Leb
open Go.RowKit Go.Bar

def u (n : Nat) : List UInt8 := if n < 128 then [UInt8.ofNat n] else UInt8.ofNat (n % 128 + 128) :: u (n / 128)
  termination_by n
  decreasing_by omega

theorem u_lt {n : Nat} (h : n < 128) : u n = [UInt8.ofNat n] := by rw [u, if_pos h]
theorem u_ge {n : Nat} (h : 128 ≤ n) : u n = UInt8.ofNat (n % 128 + 128) :: u (n / 128) := by rw [u, if_neg (by omega)]

theorem u_len_le : ∀ (k n : Nat), n < 128 ^ (k + 1) → (u n).length ≤ k + 1
  | 0, n, h => by rw [u_lt (by simpa using h)]; simp
  | k + 1, n, h => by
    by_cases hn : n < 128
    · rw [u_lt hn]; simp
    · rw [u_ge (by omega), List.length_cons]
      have := u_len_le k (n / 128) (by rw [Nat.pow_succ] at h; omega)
      omega
theorem u_len (n : Nat) (h : n < 18446744073709551616) : (u n).length ≤ 10 := u_len_le 9 n (by omega)
theorem u_pos (n : Nat) : 0 < (u n).length := by
  by_cases hn : n < 128
  · rw [u_lt hn]; simp
  · rw [u_ge (by omega)]; simp

def tk : Nat → Nat → List UInt8 → Nat × List UInt8 × Nat
  | _, _, [] => (0, [], 2)
  | i, acc, c :: r =>
    if i = 9 ∧ 1 < c.toNat then (0, [], 3)
    else if c.toNat = 0 ∧ 0 < i then (0, [], 3)
    else if c.toNat < 128 then (acc + c.toNat % 128 * 128 ^ i, r, 0)
    else tk (i + 1) (acc + c.toNat % 128 * 128 ^ i) r

def takeU (l : List UInt8) : Nat × List UInt8 × Nat := tk 0 0 l

theorem acc_step (acc k c : Nat) (hacc : acc < 128 ^ k) (hk : k ≤ 9) (hc : c < 256) (h9 : k = 9 → c ≤ 1) (p : Int) (hp : p = ((2 ^ (7 * k) : Nat) : Int)) :
    bits .or .u64 (acc : Int) (IntKind.u64.wrap (IntKind.u64.wrap (bits .and .u8 (c : Int) 127) * p)) = ((acc + c % 128 * 128 ^ k : Nat) : Int) := by
  have e1 : (2 : Nat) ^ (7 * k) = 128 ^ k := by rw [Nat.pow_mul]
  have hp128 : 128 ^ k ≤ 128 ^ 9 := Nat.pow_le_pow_right (by omega) hk
  have hb : c % 128 * 128 ^ k < 18446744073709551616 := by
    by_cases h : k = 9
    · subst h
      have := h9 rfl
      have h2 : c % 128 ≤ 1 := by omega
      have := Nat.mul_le_mul_right (128 ^ 9) h2
      omega
    · have hp' : 128 ^ k ≤ 128 ^ 8 := Nat.pow_le_pow_right (by omega) (by omega)
      have := Nat.mul_le_mul (show c % 128 ≤ 127 by omega) hp'
      omega
  have hm : bits .and .u8 (c : Int) 127 = ((c % 128 : Nat) : Int) := by
    have := u8_and_nat c 127 hc (by omega)
    rw [nat_mask7] at this
    exact this
  rw [hm, hp, e1]
  have e2 : IntKind.u64.wrap ((c % 128 : Nat) : Int) = ((c % 128 : Nat) : Int) := by rw [IntKind.wrap_u64]; omega
  rw [e2, ← Int.natCast_mul]
  have e3 : IntKind.u64.wrap ((c % 128 * 128 ^ k : Nat) : Int) = ((c % 128 * 128 ^ k : Nat) : Int) := by rw [IntKind.wrap_u64]; omega
  rw [e3, u64_or_nat _ _ (by omega) hb]
  congr 1
  have := nat_join (7 * k) (c % 128 * 128 ^ k) acc (by rw [e1]; exact Nat.mul_mod_left _ _) (by rw [e1]; exact hacc)
  rw [Nat.or_comm, this, Nat.add_comm]
theorem acc_lt (acc k c : Nat) (hacc : acc < 128 ^ k) : acc + c % 128 * 128 ^ k < 128 ^ (k + 1) := by
  rw [Nat.pow_succ]
  have := Nat.mul_le_mul_right (128 ^ k) (show c % 128 ≤ 127 by omega)
  omega
theorem drop_str (s : ByteArray) (k : Nat) : s.extract k s.size = bs (s.data.toList.drop k) := by
  have e : (s.extract k s.size).data.toList = s.data.toList.drop k := by
    rw [Lib.extract_data]
    exact List.take_of_length_le (by rw [List.length_drop]; exact Nat.le_of_eq (by rw [size_eq]))
  rw [← e]; rfl
theorem drop_cons (s : ByteArray) (k : Nat) (hk : k < s.size) : s.data.toList.drop k = s[k] :: s.data.toList.drop (k + 1) := by
  rw [List.drop_eq_getElem_cons hk]; rfl

theorem tk_end {i acc : Nat} : tk i acc [] = (0, [], 2) := rfl
theorem tk_big {i acc : Nat} {c : UInt8} {r : List UInt8} (h : i = 9) (hc : 1 < c.toNat) : tk i acc (c :: r) = (0, [], 3) := by rw [tk, if_pos ⟨h, hc⟩]
theorem tk_zero {i acc : Nat} {c : UInt8} {r : List UInt8} (h : 0 < i) (hc : c.toNat = 0) : tk i acc (c :: r) = (0, [], 3) := by
  rw [tk, if_neg (by omega), if_pos ⟨hc, h⟩]
theorem tk_last {i acc : Nat} {c : UInt8} {r : List UInt8} (h : i = 9 → c.toNat ≤ 1) (h0 : c.toNat = 0 → i = 0) (hc : c.toNat < 128) : tk i acc (c :: r) = (acc + c.toNat % 128 * 128 ^ i, r, 0) := by
  rw [tk, if_neg (by omega), if_neg (by omega), if_pos hc]
theorem tk_more {i acc : Nat} {c : UInt8} {r : List UInt8} (h : i ≠ 9) (hc : 128 ≤ c.toNat) : tk i acc (c :: r) = tk (i + 1) (acc + c.toNat % 128 * 128 ^ i) r := by
  rw [tk, if_neg (by omega), if_neg (by omega), if_neg (by omega)]
theorem Quiet.of {w w' : World} {v v' : Value} (h : v = v') (hw : ∃ n, w' = w.drewN n) : Quiet w v (.returned v') w' := ⟨by rw [h], hw⟩
theorem takeU_last {s : ByteArray} {k acc : Nat} (hk : k < s.size) (hk9 : k ≤ 9) (hacc : acc < 128 ^ k) (HT : Hid (tk k acc (s[k] :: s.data.toList.drop (k + 1)) = takeU s.data.toList))
    (h : k = 9 → s[k].toNat ≤ 1) (h0 : s[k].toNat = 0 → k = 0) (hc : s[k].toNat < 128) (z p : Int) (q : Nat) (hz : z = (s[k].toNat : Int)) (hp : p = ((2 ^ (7 * k) : Nat) : Int)) (hq : q = k + 1) :
    Value.tuple #[.int .u64 (takeU s.data.toList).1, .string (bs (takeU s.data.toList).2.1), .int .i64 (takeU s.data.toList).2.2] =
      Value.tuple #[.int .u64 (bits .or .u64 (acc : Int) (IntKind.u64.wrap (IntKind.u64.wrap (bits .and .u8 z 127) * p))), .string (s.extract q s.size), .int .i64 0] := by
  rw [← HT.out, tk_last h h0 hc, hz, hq, acc_step acc k _ hacc hk9 (UInt8.toNat_lt _) h p hp, drop_str s (k + 1)]
  rfl
theorem takeU_bad {s : ByteArray} {k acc : Nat} (hk : k < s.size) (HT : Hid (tk k acc (s[k] :: s.data.toList.drop (k + 1)) = takeU s.data.toList)) (h : k = 9 ∧ 1 < s[k].toNat ∨ 0 < k ∧ s[k].toNat = 0) :
    Value.tuple #[.int .u64 (takeU s.data.toList).1, .string (bs (takeU s.data.toList).2.1), .int .i64 (takeU s.data.toList).2.2] = Value.tuple #[.int .u64 0, .string { data := #[] }, .int .i64 3] := by
  rcases h with ⟨h1, h2⟩ | ⟨h1, h2⟩
  · rw [← HT.out, tk_big h1 h2]; rfl
  · rw [← HT.out, tk_zero h1 h2]; rfl

theorem byte_hi (k : Nat) : bits .or .u8 ((k : Int) % 256) 128 = ((UInt8.ofNat (k % 128 + 128)).toNat : Int) := by
  have e : ((k : Int) % 256) = ((k % 256 : Nat) : Int) := by omega
  have := u8_or_nat (k % 256) 128 (by omega) (by omega)
  rw [e]
  refine this.trans ?_
  rw [UInt8.toNat_ofNat']
  congr 1
  have h1 : k % 256 = k % 128 + k / 128 % 2 * 128 := by omega
  have h2 : (k % 256) ||| 128 = k % 128 + 128 := by
    rcases (show k / 128 % 2 = 0 ∨ k / 128 % 2 = 1 by omega) with h | h
    · rw [show k % 256 = k % 128 by omega, Nat.or_comm, nat_join 7 128 (k % 128) (by omega) (by omega), Nat.add_comm]
    · rw [show k % 256 = 128 + k % 128 by omega, ← nat_join 7 128 (k % 128) (by omega) (by omega), Nat.or_comm 128 (k % 128), Nat.or_assoc, Nat.or_self, Nat.or_comm, nat_join 7 128 (k % 128) (by omega) (by omega), Nat.add_comm]
  rw [h2]
  exact (Nat.mod_eq_of_lt (by omega)).symm
theorem byte_lo (k : Nat) (h : k < 128) : (k : Int) = ((UInt8.ofNat k).toNat : Int) := by
  rw [UInt8.toNat_ofNat']
  congr 1
  exact (Nat.mod_eq_of_lt (by omega)).symm

def unfold (n : Nat) : Int := if n % 2 = 1 then -((n / 2 : Nat) : Int) - 1 else ((n / 2 : Nat) : Int)

def takeMost (l : List UInt8) (most : Int) : Nat × List UInt8 × Nat := if (takeU l).2.2 = 0 ∧ (max most 0).toNat < (takeU l).1 then (0, [], 16) else takeU l
def takeText (l : List UInt8) (most : Int) : List UInt8 × List UInt8 × Nat :=
  if (takeMost l most).2.2 ≠ 0 then ([], [], (takeMost l most).2.2)
  else if (takeMost l most).2.1.length < (takeMost l most).1 then ([], [], 2)
  else ((takeMost l most).2.1.take (takeMost l most).1, (takeMost l most).2.1.drop (takeMost l most).1, 0)

theorem tk_prop : ∀ (l : List UInt8) (i acc : Nat), i ≤ 9 → acc < 128 ^ i → (tk i acc l).1 < 18446744073709551616 ∧ (tk i acc l).2.1.length ≤ l.length ∧ ((tk i acc l).2.2 = 0 ∨ ((tk i acc l).2.2 = 2 ∨ (tk i acc l).2.2 = 3) ∧ (tk i acc l).1 = 0 ∧ (tk i acc l).2.1 = [])
  | [], i, acc, _, _ => by rw [tk_end]; exact ⟨by omega, Nat.le_refl _, .inr ⟨.inl rfl, rfl, rfl⟩⟩
  | c :: r, i, acc, hi, ha => by
    by_cases h1 : i = 9 ∧ 1 < c.toNat
    · rw [tk_big h1.1 h1.2]; exact ⟨by omega, by simp, .inr ⟨.inr rfl, rfl, rfl⟩⟩
    · by_cases h2 : c.toNat = 0 ∧ 0 < i
      · rw [tk_zero h2.2 h2.1]; exact ⟨by omega, by simp, .inr ⟨.inr rfl, rfl, rfl⟩⟩
      · by_cases h3 : c.toNat < 128
        · rw [tk_last (by omega) (by omega) h3]
          refine ⟨?_, by simp, .inl rfl⟩
          have hp : 128 ^ i ≤ 128 ^ 9 := Nat.pow_le_pow_right (by omega) hi
          by_cases h9 : i = 9
          · subst h9
            have := Nat.mul_le_mul_right (128 ^ 9) (show c.toNat % 128 ≤ 1 by omega)
            omega
          · have hp' : 128 ^ i ≤ 128 ^ 8 := Nat.pow_le_pow_right (by omega) (by omega)
            have := Nat.mul_le_mul (show c.toNat % 128 ≤ 127 by omega) hp'
            omega
        · rw [tk_more (by omega) (by omega)]
          obtain ⟨g1, g2, g3⟩ := tk_prop r (i + 1) _ (by omega) (acc_lt acc i c.toNat ha)
          exact ⟨g1, by rw [List.length_cons]; omega, g3⟩
theorem takeU_prop (l : List UInt8) : (takeU l).1 < 18446744073709551616 ∧ (takeU l).2.1.length ≤ l.length ∧ ((takeU l).2.2 = 0 ∨ ((takeU l).2.2 = 2 ∨ (takeU l).2.2 = 3) ∧ (takeU l).1 = 0 ∧ (takeU l).2.1 = []) := tk_prop l 0 0 (by omega) (by simp)

theorem tk_u : ∀ (n i acc : Nat) (r : List UInt8), acc < 128 ^ i → i ≤ 9 → (0 < i → 0 < n) → acc + n * 128 ^ i < 18446744073709551616 → tk i acc (u n ++ r) = (acc + n * 128 ^ i, r, 0) := by
  intro n
  induction n using Nat.strongRecOn with
  | _ n ih =>
    intro i acc r ha hi h0 hlt
    have hb : ∀ m, m < 256 → (UInt8.ofNat m).toNat = m := fun m hm => by rw [UInt8.toNat_ofNat']; omega
    by_cases hn : n < 128
    · rw [u_lt hn, List.singleton_append, tk_last]
      · rw [hb n (by omega), Nat.mod_eq_of_lt hn]
      · intro h9; subst h9
        rw [hb n (by omega)]
        omega
      · rw [hb n (by omega)]; omega
      · rw [hb n (by omega)]; exact hn
    · have h9 : i ≠ 9 := by rintro rfl; omega
      rw [u_ge (by omega), List.cons_append, tk_more h9 (by rw [hb _ (by omega)]; omega), hb _ (by omega)]
      have e1 : (n % 128 + 128) % 128 = n % 128 := by omega
      have e2 : acc + n % 128 * 128 ^ i + n / 128 * 128 ^ (i + 1) = acc + n * 128 ^ i := by
        rw [Nat.pow_succ, Nat.mul_comm (128 ^ i) 128, ← Nat.mul_assoc, Nat.add_assoc, ← Nat.add_mul]
        congr 2
        omega
      rw [e1, ih (n / 128) (by omega) (i + 1) _ r (by have := acc_lt acc i (n % 128) ha; rwa [Nat.mod_mod] at this) (by omega) (by omega) (by rw [e2]; exact hlt), e2]
theorem takeU_u (n : Nat) (r : List UInt8) (h : n < 18446744073709551616) : takeU (u n ++ r) = (n, r, 0) := by
  unfold takeU
  rw [tk_u n 0 0 r (by simp) (by omega) (fun h => absurd h (by omega)) (by simpa using h)]
  simp

theorem tk_one : ∀ (l : List UInt8) (i acc : Nat), i ≤ 9 → (tk i acc l).2.2 = 0 → ∃ n, (0 < i → 0 < n) ∧ (tk i acc l).1 = acc + n * 128 ^ i ∧ l = u n ++ (tk i acc l).2.1
  | [], i, acc, _, h => by rw [tk_end] at h; cases h
  | c :: r, i, acc, hi, h => by
    by_cases h1 : i = 9 ∧ 1 < c.toNat
    · rw [tk_big h1.1 h1.2] at h; cases h
    · by_cases h2 : c.toNat = 0 ∧ 0 < i
      · rw [tk_zero h2.2 h2.1] at h; cases h
      · by_cases h3 : c.toNat < 128
        · rw [tk_last (by omega) (by omega) h3]
          refine ⟨c.toNat, by omega, by simp only []; rw [Nat.mod_eq_of_lt h3], ?_⟩
          rw [u_lt h3, List.singleton_append]
          simp
        · have hm := tk_more (acc := acc) (r := r) (c := c) (i := i) (by omega) (by omega)
          rw [hm] at h ⊢
          obtain ⟨n, hn0, hn, hl⟩ := tk_one r (i + 1) _ (by omega) h
          have hc := UInt8.toNat_lt c
          refine ⟨c.toNat % 128 + n * 128, fun _ => by have := hn0 (by omega); omega, ?_, ?_⟩
          · rw [hn, Nat.pow_succ, Nat.add_mul, Nat.mul_comm (128 ^ i) 128, ← Nat.mul_assoc, Nat.add_assoc]
          · have hn1 := hn0 (by omega)
            rw [u_ge (by omega), show (c.toNat % 128 + n * 128) / 128 = n by omega, show (c.toNat % 128 + n * 128) % 128 + 128 = c.toNat by omega, List.cons_append, ← hl]
            simp
theorem takeU_one (l : List UInt8) (h : (takeU l).2.2 = 0) : u (takeU l).1 ++ (takeU l).2.1 = l := by
  obtain ⟨n, _, hn, hl⟩ := tk_one l 0 0 (by omega) h
  unfold takeU
  rw [show (tk 0 0 l).1 = n by rw [hn]; simp]
  exact hl.symm

theorem takeMost_prop (l : List UInt8) (most : Int) (hm : most ≤ 9223372036854775807) : (takeMost l most).1 ≤ 9223372036854775807 ∧ (takeMost l most).2.1.length ≤ l.length ∧ ((takeMost l most).2.2 = 0 ∨ (takeMost l most).2.2 ≠ 0 ∧ (takeMost l most).1 = 0 ∧ (takeMost l most).2.1 = []) := by
  have hp := takeU_prop l
  unfold takeMost
  by_cases h : (takeU l).2.2 = 0 ∧ (max most 0).toNat < (takeU l).1
  · rw [if_pos h]; exact ⟨Nat.zero_le _, Nat.zero_le _, .inr ⟨by decide, rfl, rfl⟩⟩
  · rw [if_neg h]
    obtain ⟨h1, h2, h3⟩ := hp
    rcases h3 with h3 | ⟨h3, h4, h5⟩
    · exact ⟨by omega, h2, .inl h3⟩
    · exact ⟨by omega, h2, .inr ⟨by omega, h4, h5⟩⟩

theorem takeMost_u (n : Nat) (r : List UInt8) (most : Int) (h : n < 18446744073709551616) (hm : (n : Int) ≤ most) : takeMost (u n ++ r) most = (n, r, 0) := by
  unfold takeMost
  rw [takeU_u n r h, if_neg (by simp only []; omega)]

end Go.Bar.Leb

namespace Go.Bar.Frm
open Go.RowKit Go.Bar Go.Bar.Leb

def bstep (c b : Nat) : Nat := if (c + b) % 2 = 1 then (c / 2) ^^^ 2197175160 else c / 2
def bsteps : Nat → Nat → Nat → Nat
  | 0, c, _ => c
  | n + 1, c, b => bstep (bsteps n c b) (b / 2 ^ n)
def crc : Nat → List UInt8 → Nat
  | c, [] => c
  | c, x :: l => crc (bsteps 8 c x.toNat) l
def no (c : Nat) : Nat := 4294967295 - c
def more (s : Nat) (l : List UInt8) : Nat := no (crc (no s) l)
def sum (l : List UInt8) : Nat := more 0 l

theorem bstep_lt {c b : Nat} (h : c < 4294967296) : bstep c b < 4294967296 := by
  unfold bstep
  split
  · exact Nat.xor_lt_two_pow (n := 32) (by omega) (by omega)
  · omega
theorem bsteps_lt : ∀ (n : Nat) {c b : Nat}, c < 4294967296 → bsteps n c b < 4294967296
  | 0, _, _, h => h
  | n + 1, _, _, h => bstep_lt (bsteps_lt n h)
theorem crc_lt : ∀ (l : List UInt8) {c : Nat}, c < 4294967296 → crc c l < 4294967296
  | [], _, h => h
  | _ :: l, _, h => crc_lt l (bsteps_lt 8 h)
theorem no_lt (c : Nat) : no c < 4294967296 := by unfold no; omega
theorem no_no {c : Nat} (h : c < 4294967296) : no (no c) = c := by unfold no; omega
theorem sum_lt (l : List UInt8) : sum l < 4294967296 := no_lt _
theorem crc_append : ∀ (l m : List UInt8) (c : Nat), crc c (l ++ m) = crc (crc c l) m
  | [], _, _ => rfl
  | _ :: l, m, _ => crc_append l m _
theorem more_more (s : Nat) (l m : List UInt8) : more (more s l) m = more s (l ++ m) := by
  unfold more
  rw [no_no (crc_lt l (no_lt _)), crc_append]
theorem more_sum (l m : List UInt8) : more (sum l) m = sum (l ++ m) := more_more 0 l m
theorem crc_snoc (l : List UInt8) (x : UInt8) (c : Nat) : crc c (l ++ [x]) = bsteps 8 (crc c l) x.toNat := crc_append l [x] c

def fs (x : Nat) : Nat := if x % 2 = 1 then (x / 2) ^^^ 2197175160 else x / 2

abbrev Rc := UInt8 × List UInt8
def sum4 (n : Nat) : List UInt8 := [UInt8.ofNat n, UInt8.ofNat (n / 256), UInt8.ofNat (n / 65536), UInt8.ofNat (n / 16777216)]
def num4 (l : List UInt8) : Nat := (l.getD 0 0).toNat + (l.getD 1 0).toNat * 256 + (l.getD 2 0).toNat * 65536 + (l.getD 3 0).toNat * 16777216
def rsum (r : Rc) : Nat := sum (r.1 :: r.2)
def rec (r : Rc) : List UInt8 := r.1 :: u r.2.length ++ sum4 (rsum r) ++ r.2
theorem num4_sum4 (n : Nat) (h : n < 4294967296) (l : List UInt8) : num4 (sum4 n ++ l) = n := by
  simp [num4, sum4]
  omega
theorem sum4_num4 (l : List UInt8) (h : 4 ≤ l.length) : sum4 (num4 l) = l.take 4 := by
  match l, h with
  | a :: b :: c :: d :: l, _ =>
    have ha := UInt8.toNat_lt a
    have hb := UInt8.toNat_lt b
    have hc := UInt8.toNat_lt c
    have hd := UInt8.toNat_lt d
    simp only [num4, sum4, List.getD_cons_zero, List.getD_cons_succ, List.take_succ_cons, List.take_zero, List.cons.injEq, and_true]
    refine ⟨?_, ?_, ?_, ?_⟩ <;> apply UInt8.toNat_inj.1 <;> simp <;> omega
theorem sum4_len (n : Nat) : (sum4 n).length = 4 := rfl
theorem rec_len (r : Rc) : (rec r).length = 5 + (u r.2.length).length + r.2.length := by
  simp [rec, sum4_len]; omega

def z : Rc := (0, [])
def next : List UInt8 → Rc × List UInt8 × Nat
  | [] => (z, [], 2)
  | k :: l =>
    if (takeMost l 1048576).2.2 ≠ 0 then (z, [], (takeMost l 1048576).2.2)
    else if (takeMost l 1048576).2.1.length < 4 + (takeMost l 1048576).1 then (z, [], 2)
    else if rsum (k, ((takeMost l 1048576).2.1.drop 4).take (takeMost l 1048576).1) ≠ num4 (takeMost l 1048576).2.1 then (z, [], 4)
    else ((k, ((takeMost l 1048576).2.1.drop 4).take (takeMost l 1048576).1), (takeMost l 1048576).2.1.drop (4 + (takeMost l 1048576).1), 0)

theorem takeMost_one (l : List UInt8) (m : Int) (h : (takeMost l m).2.2 = 0) : u (takeMost l m).1 ++ (takeMost l m).2.1 = l := by
  unfold takeMost at h ⊢
  split
  · rename_i hc; rw [if_pos hc] at h; cases h
  · rename_i hc; rw [if_neg hc] at h; exact takeU_one l h
theorem takeMost_le (l : List UInt8) (m : Nat) (h : (takeMost l m).2.2 = 0) : (takeMost l m).1 ≤ m := by
  unfold takeMost at h ⊢
  split
  · omega
  · rename_i hc; rw [if_neg hc] at h; omega

theorem next_one (l : List UInt8) (h : (next l).2.2 = 0) : rec (next l).1 ++ (next l).2.1 = l ∧ (next l).1.2.length ≤ 1048576 := by
  match l with
  | [] => simp [next] at h
  | k :: l =>
    rw [next] at h ⊢
    by_cases h1 : (takeMost l 1048576).2.2 ≠ 0
    · rw [if_pos h1] at h; exact absurd h h1
    · rw [if_neg h1] at h ⊢
      have h1 : (takeMost l 1048576).2.2 = 0 := by omega
      have ho := takeMost_one l 1048576 h1
      have hl := takeMost_le l 1048576 h1
      by_cases h2 : (takeMost l 1048576).2.1.length < 4 + (takeMost l 1048576).1
      · rw [if_pos h2] at h; cases h
      · rw [if_neg h2] at h ⊢
        by_cases h3 : rsum (k, ((takeMost l 1048576).2.1.drop 4).take (takeMost l 1048576).1) ≠ num4 (takeMost l 1048576).2.1
        · rw [if_pos h3] at h; cases h
        · rw [if_neg h3]
          have h3 : rsum (k, ((takeMost l 1048576).2.1.drop 4).take (takeMost l 1048576).1) = num4 (takeMost l 1048576).2.1 := by
            rcases Nat.decEq (rsum (k, ((takeMost l 1048576).2.1.drop 4).take (takeMost l 1048576).1)) (num4 (takeMost l 1048576).2.1) with h | h
            · exact absurd h h3
            · exact h
          generalize (takeMost l 1048576).1 = n at *
          generalize (takeMost l 1048576).2.1 = r at *
          have hd : ((r.drop 4).take n).length = n := by rw [List.length_take, List.length_drop]; omega
          refine ⟨?_, by rw [hd]; exact hl⟩
          simp only [rec, hd, h3]
          rw [sum4_num4 r (by omega), List.append_assoc, List.append_assoc, show r.drop (4 + n) = (r.drop 4).drop n by rw [List.drop_drop], List.take_append_drop, List.cons_append, List.take_append_drop, ho]
theorem next_left (l : List UInt8) (h : (next l).2.2 = 0) : (next l).2.1.length + 6 ≤ l.length := by
  obtain ⟨h1, _⟩ := next_one l h
  have := congrArg List.length h1
  rw [List.length_append, rec_len] at this
  have := u_pos (next l).1.2.length
  omega
theorem next_rec (r : Rc) (t : List UInt8) (h : r.2.length ≤ 1048576) : next (rec r ++ t) = (r, t, 0) := by
  obtain ⟨k, d⟩ := r
  simp only at h
  have e : rec (k, d) ++ t = k :: (u d.length ++ (sum4 (rsum (k, d)) ++ (d ++ t))) := by simp [rec]
  have ht := takeMost_u d.length (sum4 (rsum (k, d)) ++ (d ++ t)) 1048576 (by omega) (by omega)
  rw [e, next, ht]
  have hl : (sum4 (rsum (k, d)) ++ (d ++ t)).length = 4 + d.length + t.length := by simp [sum4_len]; omega
  have hd4 : (sum4 (rsum (k, d)) ++ (d ++ t)).drop 4 = d ++ t := by rw [List.drop_append_of_le_length (by simp [sum4_len]), List.drop_of_length_le (by simp [sum4_len]), List.nil_append]
  rw [if_neg (by simp), if_neg (by simp only; omega)]
  simp only [hd4, List.take_left']
  rw [if_neg (by simp [num4_sum4 _ (show rsum (k, d) < 4294967296 from sum_lt _)])]
  rw [show (4 + d.length) = 4 + d.length from rfl, ← List.drop_drop, hd4, List.drop_left]

theorem next_cut (r : Rc) (j : Nat) (h : r.2.length ≤ 1048576) (hj : j < (rec r).length) : (next ((rec r).take j)).2.2 ≠ 0 := by
  intro h0
  obtain ⟨h1, _⟩ := next_one _ h0
  have h2 : rec (next ((rec r).take j)).1 ++ ((next ((rec r).take j)).2.1 ++ (rec r).drop j) = rec r := by
    rw [← List.append_assoc, h1, List.take_append_drop]
  have h3 := next_rec (next ((rec r).take j)).1 ((next ((rec r).take j)).2.1 ++ (rec r).drop j) (next_one _ h0).2
  rw [h2] at h3
  have h4 := next_rec r [] h
  rw [List.append_nil] at h4
  rw [h4] at h3
  have h5 := congrArg (fun x => x.2.1.length) h3
  simp at h5
  omega

def all : Nat → List UInt8 → List Rc × List UInt8
  | 0, l => ([], l)
  | f + 1, l => if (next l).2.2 = 0 then ((next l).1 :: (all f (next l).2.1).1, (all f (next l).2.1).2) else ([], l)
theorem all_stop {f : Nat} {l : List UInt8} (h : (next l).2.2 ≠ 0) : all f l = ([], l) := by
  cases f with
  | zero => rfl
  | succ f => rw [all, if_neg h]
theorem all_go {f : Nat} {l : List UInt8} (h : (next l).2.2 = 0) : all (f + 1) l = ((next l).1 :: (all f (next l).2.1).1, (all f (next l).2.1).2) := by rw [all, if_pos h]
theorem all_fuel : ∀ (f g : Nat) (l : List UInt8), l.length ≤ f → l.length ≤ g → all f l = all g l
  | 0, g, l, hf, _ => by
    obtain rfl := List.eq_nil_of_length_eq_zero (by omega : l.length = 0)
    rw [all_stop (by simp [next]), all_stop (by simp [next])]
  | f + 1, 0, l, _, hg => by
    obtain rfl := List.eq_nil_of_length_eq_zero (by omega : l.length = 0)
    rw [all_stop (by simp [next]), all_stop (by simp [next])]
  | f + 1, g + 1, l, hf, hg => by
    by_cases h : (next l).2.2 = 0
    · have := next_left l h
      rw [all_go h, all_go h, all_fuel f g _ (by omega) (by omega)]
    · rw [all_stop h, all_stop h]
def recs (l : List UInt8) : List Rc := (all l.length l).1
def left (l : List UInt8) : List UInt8 := (all l.length l).2
theorem recs_stop {l : List UInt8} (h : (next l).2.2 ≠ 0) : recs l = [] ∧ left l = l := by
  unfold recs left
  rw [all_stop h]
  exact ⟨rfl, rfl⟩
theorem recs_go {l : List UInt8} (h : (next l).2.2 = 0) : recs l = (next l).1 :: recs (next l).2.1 ∧ left l = left (next l).2.1 := by
  unfold recs left
  have := next_left l h
  obtain ⟨n, hn⟩ : ∃ n, l.length = n + 1 := ⟨l.length - 1, by omega⟩
  rw [hn, all_go h, all_fuel n _ _ (by omega) (Nat.le_refl _)]
  exact ⟨rfl, rfl⟩
theorem left_le (l : List UInt8) : (left l).length ≤ l.length := by
  suffices h : ∀ n (l : List UInt8), l.length ≤ n → (left l).length ≤ l.length from h _ l (Nat.le_refl _)
  intro n
  induction n with
  | zero =>
    intro l hl
    obtain rfl := List.eq_nil_of_length_eq_zero (by omega : l.length = 0)
    exact Nat.le_refl _
  | succ n ih =>
    intro l hl
    by_cases h : (next l).2.2 = 0
    · have h1 := next_left l h
      have := ih (next l).2.1 (by omega)
      rw [(recs_go h).2]
      omega
    · rw [(recs_stop h).2]
      exact Nat.le_refl _
def laid (rs : List Rc) : List UInt8 := rs.flatMap rec
theorem laid_cons (r : Rc) (rs : List Rc) : laid (r :: rs) = rec r ++ laid rs := by simp [laid]
theorem laid_snoc (rs : List Rc) (r : Rc) : laid (rs ++ [r]) = laid rs ++ rec r := by simp [laid]
theorem recs_laid : ∀ (rs : List Rc) (t : List UInt8), (∀ r ∈ rs, r.2.length ≤ 1048576) → (next t).2.2 ≠ 0 → recs (laid rs ++ t) = rs ∧ left (laid rs ++ t) = t
  | [], t, _, ht => by simpa [laid] using recs_stop ht
  | r :: rs, t, h, ht => by
    have h1 := next_rec r (laid rs ++ t) (h r (by simp))
    rw [laid_cons, List.append_assoc]
    obtain ⟨h2, h3⟩ := recs_go (l := rec r ++ (laid rs ++ t)) (by rw [h1])
    obtain ⟨h4, h5⟩ := recs_laid rs t (fun r hr => h r (by simp [hr])) ht
    rw [h1] at h2 h3
    exact ⟨by rw [h2, h4], by rw [h3, h5]⟩
def whole (rs : List Rc) (cut : Nat) : Nat × Nat :=
  match rs with
  | [] => (0, 0)
  | r :: rs => if (rec r).length ≤ cut then ((whole rs (cut - (rec r).length)).1 + 1, (whole rs (cut - (rec r).length)).2 + (rec r).length) else (0, 0)
theorem whole_le : ∀ (rs : List Rc) (cut : Nat), (whole rs cut).1 ≤ rs.length
  | [], _ => Nat.le_refl _
  | r :: rs, cut => by
    rw [whole]
    split
    · have := whole_le rs (cut - (rec r).length); simp; exact this
    · exact Nat.zero_le _
theorem next_nil : (next []).2.2 ≠ 0 := by simp [next]
theorem recs_torn : ∀ (rs : List Rc) (cut : Nat), (∀ r ∈ rs, r.2.length ≤ 1048576) → cut ≤ (laid rs).length → recs ((laid rs).take cut) = rs.take (whole rs cut).1 ∧ (left ((laid rs).take cut)).length + (whole rs cut).2 = cut
  | [], cut, _, hc => by
    have h0 : cut = 0 := by simp [laid] at hc; exact hc
    subst h0
    obtain ⟨h1, h2⟩ := recs_stop next_nil
    simp [laid, whole, h1, h2]
  | r :: rs, cut, h, hc => by
    have hr := h r (by simp)
    rw [laid_cons, whole]
    by_cases hlen : (rec r).length ≤ cut
    · rw [if_pos hlen]
      have h1 := next_rec r ((laid rs).take (cut - (rec r).length)) hr
      have e : (rec r ++ laid rs).take cut = rec r ++ (laid rs).take (cut - (rec r).length) := by
        rw [List.take_append, List.take_of_length_le hlen]
      obtain ⟨h2, h3⟩ := recs_go (l := rec r ++ (laid rs).take (cut - (rec r).length)) (by rw [h1])
      obtain ⟨h4, h5⟩ := recs_torn rs (cut - (rec r).length) (fun r hr => h r (by simp [hr])) (by rw [laid_cons, List.length_append] at hc; omega)
      rw [h1] at h2 h3
      rw [e, h2, h3, h4]
      exact ⟨rfl, by simp only; omega⟩
    · rw [if_neg hlen]
      have e : (rec r ++ laid rs).take cut = (rec r).take cut := by rw [List.take_append_of_le_length (by omega)]
      have hn : (next ((rec r).take cut)).2.2 ≠ 0 := next_cut r cut hr (by omega)
      obtain ⟨h1, h2⟩ := recs_stop hn
      rw [e, h1, h2]
      refine ⟨by simp, ?_⟩
      rw [List.length_take]; simp only; omega

end Go.Bar.Frm

namespace Go.Bar.Lab
open Go.RowKit Go.Bar Go.Bar.Leb

abbrev Pr := List UInt8 × List UInt8
def letter (c : UInt8) : Bool := decide (97 ≤ c ∧ c ≤ 122 ∨ 65 ≤ c ∧ c ≤ 90 ∨ c = 95)
def digit (c : UInt8) : Bool := decide (48 ≤ c ∧ c ≤ 57)
def signB (first : Bool) (c : UInt8) : Bool := letter c || (!first && digit c)
def nameB (s : List UInt8) : Bool := !s.isEmpty && signB true (s.headD 0) && s.all (signB false) && decide (s.length ≤ 40)
def okP (p : Pr) : Bool := nameB p.1 && !p.2.isEmpty && decide (p.2.length ≤ 40)
def Ok (l : List Pr) : Prop := 0 < l.length ∧ l.length ≤ 8 ∧ (∀ p ∈ l, okP p = true) ∧ l.Pairwise (fun a b => a.1 < b.1)
instance (l : List Pr) : Decidable (Ok l) := by unfold Ok; infer_instance
def chk (l : List Pr) : Bool := decide (Ok l)

def ins (p : Pr) : List Pr → List Pr
  | [] => [p]
  | q :: r => if p.1 < q.1 then p :: q :: r else q :: ins p r
def srt : List Pr → List Pr → List Pr
  | acc, [] => acc
  | acc, p :: r => srt (ins p acc) r
def sorted (l : List Pr) : List Pr := srt [] l

def tx (l : List UInt8) : List UInt8 := u l.length ++ l
def key (l : List Pr) : List UInt8 := u l.length ++ l.flatMap fun p => tx p.1 ++ tx p.2
def one (p : Pr) : List UInt8 := p.1 ++ 61 :: p.2

def tp : Nat → List UInt8 → List Pr × List UInt8 × Nat
  | 0, s => ([], s, 0)
  | n + 1, s => match takeText s 40 with
    | (a, s1, e1) => if e1 ≠ 0 then ([], [], e1) else match takeText s1 40 with
      | (b, s2, e2) => if e2 ≠ 0 then ([], [], e2) else match tp n s2 with
        | (l, r, e) => if e ≠ 0 then ([], [], e) else ((a, b) :: l, r, 0)
def take (s : List UInt8) : List Pr × List UInt8 × Nat := match takeMost s 8 with
  | (n, r, e) => if e ≠ 0 then ([], [], e) else match tp n r with
    | (l, r, e) => if e ≠ 0 then ([], [], e) else if chk l = true then (l, r, 0) else ([], [], 3)




end Go.Bar.Lab

namespace Go.Bar.Wal
open Go.RowKit Go.Bar Go.Bar.Leb Go.Bar.Frm

structure Fi where
  s : List UInt8
  sure : Nat
abbrev Nm := List UInt8
abbrev Fs := List (Nm × Fi)
def fnd : Fs → Nm → Option Fi
  | [], _ => none
  | (m, f) :: r, n => if m = n then some f else fnd r n
def fput : Fs → Nm → Fi → Fs
  | [], n, f => [(n, f)]
  | (m, g) :: r, n, f => if m = n then (n, f) :: r else if n < m then (n, f) :: (m, g) :: r else (m, g) :: fput r n f
def fdel : Fs → Nm → Fs
  | [], _ => []
  | (m, g) :: r, n => if m = n then fdel r n else (m, g) :: fdel r n
theorem fnd_put (fs : Fs) (n : Nm) (f : Fi) (x : Nm) : fnd (fput fs n f) x = if x = n then some f else fnd fs x := by
  induction fs with
  | nil =>
    show (if n = x then some f else none) = _
    by_cases h : x = n
    · rw [if_pos h, if_pos h.symm]
    · rw [if_neg h, if_neg (fun e => h e.symm)]; rfl
  | cons p r ih =>
    obtain ⟨m, g⟩ := p
    unfold fput
    by_cases h1 : m = n
    · rw [if_pos h1]
      show (if n = x then some f else fnd r x) = if x = n then some f else if m = x then some g else fnd r x
      by_cases h : x = n
      · rw [if_pos h, if_pos h.symm]
      · rw [if_neg h, if_neg (fun e => h e.symm), if_neg (fun e => h (e.symm.trans h1))]
    · rw [if_neg h1]
      by_cases h2 : n < m
      · rw [if_pos h2]
        show (if n = x then some f else fnd ((m, g) :: r) x) = _
        by_cases h : x = n
        · rw [if_pos h, if_pos h.symm]
        · rw [if_neg h, if_neg (fun e => h e.symm)]
      · rw [if_neg h2]
        show (if m = x then some g else fnd (fput r n f) x) = if x = n then some f else if m = x then some g else fnd r x
        rw [ih]
        by_cases h : x = n
        · rw [if_pos h, if_pos h, if_neg (fun e => h1 (e.trans h))]
        · rw [if_neg h, if_neg h]
theorem fnd_del (fs : Fs) (n x : Nm) : fnd (fdel fs n) x = if x = n then none else fnd fs x := by
  induction fs with
  | nil => show none = _; split <;> rfl
  | cons p r ih =>
    obtain ⟨m, g⟩ := p
    unfold fdel
    by_cases h1 : m = n
    · rw [if_pos h1, ih]
      by_cases h : x = n
      · rw [if_pos h, if_pos h]
      · rw [if_neg h, if_neg h]
        show _ = if m = x then some g else fnd r x
        rw [if_neg (fun e => h (e.symm.trans h1))]
    · rw [if_neg h1]
      show (if m = x then some g else fnd (fdel r n) x) = if x = n then none else if m = x then some g else fnd r x
      rw [ih]
      by_cases h : x = n
      · rw [if_pos h, if_pos h, if_neg (fun e => h1 (e.trans h))]
      · rw [if_neg h, if_neg h]
def Srt (fs : Fs) : Prop := fs.Pairwise (fun a b => a.1 < b.1)
theorem put_mem {fs : Fs} {n : Nm} {f : Fi} {p : Nm × Fi} (h : p ∈ fput fs n f) : p = (n, f) ∨ p ∈ fs := by
  induction fs with
  | nil => exact .inl (List.mem_singleton.1 h)
  | cons q r ih =>
    obtain ⟨m, g⟩ := q
    unfold fput at h
    split at h
    · rcases List.mem_cons.1 h with h | h
      · exact .inl h
      · exact .inr (List.mem_cons_of_mem _ h)
    · split at h
      · rcases List.mem_cons.1 h with h | h
        · exact .inl h
        · exact .inr h
      · rcases List.mem_cons.1 h with h | h
        · exact .inr (h ▸ List.mem_cons_self ..)
        · rcases ih h with h | h
          · exact .inl h
          · exact .inr (List.mem_cons_of_mem _ h)
theorem del_sub (fs : Fs) (n : Nm) : (fdel fs n).Sublist fs := by
  induction fs with
  | nil => exact List.Sublist.refl _
  | cons q r ih =>
    obtain ⟨m, g⟩ := q
    unfold fdel
    split
    · exact ih.cons _
    · exact ih.cons_cons _
theorem nm_lt_of {a b : Nm} (h1 : a ≠ b) (h2 : ¬ a < b) : b < a := by
  rcases Std.lt_trichotomy a b with h | h | h
  · exact absurd h h2
  · exact absurd h h1
  · exact h
theorem Srt.put {fs : Fs} (h : Srt fs) (n : Nm) (f : Fi) : Srt (fput fs n f) := by
  induction fs with
  | nil => exact List.pairwise_singleton _ _
  | cons q r ih =>
    obtain ⟨m, g⟩ := q
    obtain ⟨h1, h2⟩ := List.pairwise_cons.1 h
    unfold fput
    by_cases e1 : m = n
    · rw [if_pos e1]
      exact List.pairwise_cons.2 ⟨fun p hp => e1 ▸ h1 p hp, h2⟩
    · rw [if_neg e1]
      by_cases e2 : n < m
      · rw [if_pos e2]
        refine List.pairwise_cons.2 ⟨fun p hp => ?_, h⟩
        rcases List.mem_cons.1 hp with hp | hp
        · rw [hp]; exact e2
        · exact List.lt_trans e2 (h1 p hp)
      · rw [if_neg e2]
        refine List.pairwise_cons.2 ⟨fun p hp => ?_, ih h2⟩
        rcases put_mem hp with hp | hp
        · rw [hp]; exact nm_lt_of (fun e => e1 e.symm) e2
        · exact h1 p hp
theorem Srt.del {fs : Fs} (h : Srt fs) (n : Nm) : Srt (fdel fs n) := h.sublist (del_sub fs n)
theorem fnd_none {fs : Fs} {n : Nm} (h : ∀ p ∈ fs, p.1 ≠ n) : fnd fs n = none := by
  induction fs with
  | nil => rfl
  | cons q r ih =>
    obtain ⟨m, g⟩ := q
    show (if m = n then some g else fnd r n) = none
    rw [if_neg (h _ (List.mem_cons_self ..))]
    exact ih fun p hp => h p (List.mem_cons_of_mem _ hp)
theorem fnd_mem {fs : Fs} {n : Nm} {f : Fi} (h : fnd fs n = some f) : (n, f) ∈ fs := by
  induction fs with
  | nil => cases h
  | cons q r ih =>
    obtain ⟨m, g⟩ := q
    have h : (if m = n then some g else fnd r n) = some f := h
    split at h
    · rename_i e
      injection h with h
      rw [e, h]; exact List.mem_cons_self ..
    · exact List.mem_cons_of_mem _ (ih h)
theorem Srt.fnd {fs : Fs} (h : Srt fs) {n : Nm} {f : Fi} (hm : (n, f) ∈ fs) : Wal.fnd fs n = some f := by
  induction fs with
  | nil => cases hm
  | cons q r ih =>
    obtain ⟨m, g⟩ := q
    obtain ⟨h1, h2⟩ := List.pairwise_cons.1 h
    show (if m = n then some g else Wal.fnd r n) = some f
    rcases List.mem_cons.1 hm with hm | hm
    · injection hm with e1 e2
      rw [if_pos e1.symm, e2]
    · have := h1 _ hm
      rw [if_neg (fun e => by rw [e] at this; exact List.lt_irrefl _ this)]
      exact ih h2 hm
theorem fnd_some_iff {fs : Fs} {n : Nm} : (fnd fs n).isSome = true ↔ n ∈ fs.map (·.1) := by
  constructor
  · intro h
    obtain ⟨f, hf⟩ := Option.isSome_iff_exists.1 h
    exact List.mem_map.2 ⟨_, fnd_mem hf, rfl⟩
  · intro h
    cases hc : fnd fs n with
    | some f => rfl
    | none =>
      exfalso
      induction fs with
      | nil => cases h
      | cons q r ih =>
        obtain ⟨m, g⟩ := q
        have hc : (if m = n then some g else fnd r n) = none := hc
        split at hc
        · cases hc
        · rename_i e
          rcases List.mem_cons.1 h with h | h
          · exact e h.symm
          · exact ih h hc

structure Fz where
  q : List (Int × Bool)
  now : Option (Int × Bool)
def Fz.hit (q : List (Int × Bool)) (a : Int) (d : Bool) : (Bool × Bool) × Fz := if 0 < a then ((true, true), ⟨q, some (a - 1, d)⟩) else ((false, d), ⟨q, none⟩)
def Fz.next (z : Fz) : (Bool × Bool) × Fz := match z.now with
  | some (a, d) => Fz.hit z.q a d
  | none => match z.q with
    | [] => ((true, true), z)
    | (a, d) :: q => Fz.hit q a d
def Fz.none_ : Fz := ⟨[], none⟩
def Fz.arm (z : Fz) (a : Int) (d : Bool) : Nat × Fz := if z.q.length < 16 then (0, ⟨z.q ++ [(max a 0, d)], z.now⟩) else (7, z)

structure Ds where
  fs : Fs
  room : Int
  used : Int
  fz : Fz
def Ds.free (d : Ds) : Int := d.room - d.used
def Ds.do_ (d : Ds) (act : Ds → Ds) : Nat × Ds :=
  ((if d.fz.next.1.1 = true then 0 else 8), if d.fz.next.1.2 = true then act { d with fz := d.fz.next.2 } else { d with fz := d.fz.next.2 })
def badName (n : Nm) : Prop := n = [] ∨ 40 < n.length
instance (n : Nm) : Decidable (badName n) := by unfold badName; exact inferInstance
def Fi.z : Fi := ⟨[], 0⟩
def Ds.append (d : Ds) (n : Nm) (s : List UInt8) : Nat × Ds :=
  if badName n then (1, d) else if d.free < s.length then (7, d)
  else d.do_ fun d => { d with fs := fput d.fs n ⟨((fnd d.fs n).getD Fi.z).s ++ s, ((fnd d.fs n).getD Fi.z).sure⟩, used := d.used + s.length }
def Ds.sync (d : Ds) (n : Nm) : Nat × Ds := match fnd d.fs n with
  | none => (5, d)
  | some f => d.do_ fun d => { d with fs := fput d.fs n ⟨f.s, f.s.length⟩ }
def Ds.truncate (d : Ds) (n : Nm) (k : Nat) : Nat × Ds := match fnd d.fs n with
  | none => (5, d)
  | some f => if f.s.length < k then (1, d) else d.do_ fun d => { d with fs := fput d.fs n ⟨f.s.take k, k⟩, used := d.used - (f.s.length - k : Nat) }
def Ds.rename (d : Ds) (old n : Nm) : Nat × Ds := match fnd d.fs old with
  | none => (5, d)
  | some f => if badName n then (1, d) else d.do_ fun d => if old = n then d else { d with fs := fput (fdel d.fs old) n f, used := d.used - (((fnd d.fs n).getD Fi.z).s.length : Nat) }
def Ds.remove (d : Ds) (n : Nm) : Nat × Ds := match fnd d.fs n with
  | none => (5, d)
  | some f => d.do_ fun d => { d with fs := fdel d.fs n, used := d.used - (f.s.length : Nat) }
def Ds.read (d : Ds) (n : Nm) : List UInt8 × Nat := match fnd d.fs n with
  | none => ([], 5)
  | some f => (f.s, 0)
def Ds.list (d : Ds) (p : Nm) : List Nm := (d.fs.map (·.1)).filter fun n => p.isPrefixOf n
def keepOf (loose : Nat) (c : Option Int) : Nat := match c with
  | none => 0
  | some z => ((z.tmod (loose + 1) + loose + 1).tmod (loose + 1)).toNat
def crashF : Fs → List Int → Fs
  | [], _ => []
  | (n, f) :: r, cs => if f.s.length - f.sure = 0 then (n, f) :: crashF r cs
    else (n, ⟨f.s.take (f.sure + keepOf (f.s.length - f.sure) cs.head?), (f.s.take (f.sure + keepOf (f.s.length - f.sure) cs.head?)).length⟩) :: crashF r cs.tail
def lost : Fs → List Int → Nat
  | [], _ => 0
  | (_, f) :: r, cs => if f.s.length - f.sure = 0 then lost r cs
    else (f.s.length - f.sure - keepOf (f.s.length - f.sure) cs.head?) + lost r cs.tail
def Ds.crash (d : Ds) (cs : List Int) : Ds := { d with fs := crashF d.fs cs, used := d.used - (lost d.fs cs : Nat), fz := Fz.none_ }
end Go.Bar.Wal

namespace Go.Bar.Wal
open Go.RowKit Go.Bar

def fiV (f : Fi) : Value := .agg #[.string (bs f.s), .int .i64 (f.sure : Nat)]
def fiD (f : Fi) : DataW Unit := .agg [.lit (.string f.s), .lit (.int .i64 (f.sure : Nat))]
theorem fiV_inj {f g : Fi} (h : fiV f = fiV g) : f = g := by
  unfold fiV at h
  injection h with h
  have h1 := congrArg (fun x : Array Value => x[0]?) h
  have h2 := congrArg (fun x : Array Value => x[1]?) h
  simp only [List.getElem?_toArray, List.getElem?_cons_zero, List.getElem?_cons_succ, Option.some.injEq, Value.string.injEq, Value.int.injEq, true_and] at h1 h2
  have h3 := congrArg (fun x : ByteArray => x.data.toList) h1
  obtain ⟨s, a⟩ := f
  obtain ⟨s2, a2⟩ := g
  have e1 : s = s2 := by simpa [bs] using h3
  have e2 : a = a2 := by exact Int.ofNat.inj h2
  rw [e1, e2]
theorem fiD_inj {f g : Fi} (h : fiD f = fiD g) : f = g := by
  unfold fiD at h
  simp only [DataW.agg.injEq, List.cons.injEq, DataW.lit.injEq, Lit.string.injEq, Lit.int.injEq, true_and, and_true] at h
  obtain ⟨s, a⟩ := f
  obtain ⟨s2, a2⟩ := g
  obtain ⟨h1, h2⟩ := h
  have e2 : a = a2 := by exact Int.ofNat.inj h2
  simp only at h1
  rw [h1, e2]
open Classical in
noncomputable def fileR (v : Value) : Option (DataW Unit × List MemPlace) := if h : ∃ f, v = fiV f then some (fiD (Classical.choose h), []) else none
theorem fileR_of (f : Fi) : fileR (fiV f) = some (fiD f, []) := by
  unfold fileR
  have h : ∃ g, fiV f = fiV g := ⟨f, rfl⟩
  rw [dif_pos h, fiV_inj (Classical.choose_spec h).symm]
theorem fileR_inv {v : Value} {f : Fi} {ps : List MemPlace} (h : fileR v = some (fiD f, ps)) : v = fiV f := by
  unfold fileR at h
  by_cases hx : ∃ g, v = fiV g
  · rw [dif_pos hx] at h
    injection h with h
    injection h with h1 _
    rw [← fiD_inj h1]
    exact Classical.choose_spec hx
  · rw [dif_neg hx] at h
    cases h
def dOf (fs : Fs) : DataW Unit := .map (fs.map fun p => (ky p.1, fiD p.2))
theorem before_eq : ∀ (x y : List UInt8), bytesBefore x y = decide (x < y)
  | [], [] => by simp [bytesBefore]
  | [], b :: y => by simp [bytesBefore]
  | a :: x, [] => by simp [bytesBefore]
  | a :: x, b :: y => by
    rw [bytesBefore, before_eq x y]
    rw [Bool.eq_iff_iff]
    simp only [Bool.or_eq_true, decide_eq_true_eq, Bool.and_eq_true, beq_iff_eq, List.cons_lt_cons_iff]
theorem same_key (a b : List UInt8) : (ky a).sameKey (ky b) = decide (a = b) := by
  show (a == b) = _
  rw [Bool.eq_iff_iff]; simp
theorem filter_key (fs : Fs) (n : Nm) : ((fs.map fun p => (ky p.1, fiD p.2)).filter fun p => !p.1.sameKey (ky n)) = (fdel fs n).map fun p => (ky p.1, fiD p.2) := by
  induction fs with
  | nil => rfl
  | cons p r ih =>
    obtain ⟨m, g⟩ := p
    rw [List.map_cons, List.filter_cons, same_key, ih]
    show _ = (if m = n then fdel r n else (m, g) :: fdel r n).map _
    by_cases h : m = n
    · rw [if_pos h, decide_eq_true h]; rfl
    · rw [if_neg h, decide_eq_false h]; rfl
theorem dOf_del (fs : Fs) (n : Nm) : (dOf fs).del (ky n) = dOf (fdel fs n) := by
  unfold dOf
  show DataW.map _ = _
  rw [filter_key]
theorem insert_map (r : Fs) (n : Nm) (f : Fi) : ∀ (l : Fs), l = r → (∀ p ∈ l, p.1 ≠ n) → DataW.insert (ky n, fiD f) (l.map fun p => (ky p.1, fiD p.2)) = (fput l n f).map fun p => (ky p.1, fiD p.2) := by
  intro l hl hne
  clear hl
  induction l with
  | nil => rfl
  | cons p l ih =>
    obtain ⟨m, g⟩ := p
    rw [List.map_cons, DataW.insert]
    have hm : m ≠ n := hne _ (List.mem_cons_self ..)
    unfold fput
    rw [if_neg hm]
    have hb : (ky n).before (ky m) = decide (n < m) := before_eq n m
    show (if (ky n).before (ky m) = true then _ else _) = _
    rw [hb]
    by_cases h : n < m
    · rw [if_pos (decide_eq_true h), if_pos h]; rfl
    · rw [if_neg (by simpa using h), if_neg h, List.map_cons, ih fun q hq => hne q (List.mem_cons_of_mem _ hq)]
theorem put_del {fs : Fs} (h : Srt fs) (n : Nm) (f : Fi) : fput (fdel fs n) n f = fput fs n f := by
  induction fs with
  | nil => rfl
  | cons p r ih =>
    obtain ⟨m, g⟩ := p
    have h2 := (List.pairwise_cons.1 h).2
    unfold fdel
    by_cases e : m = n
    · rw [if_pos e]
      have hno : fdel r n = r := by
        have : ∀ l : Fs, (∀ q ∈ l, q.1 ≠ n) → fdel l n = l := fun l hl => by
          induction l with
          | nil => rfl
          | cons q l ih2 =>
            obtain ⟨a, b⟩ := q
            unfold fdel
            rw [if_neg (hl _ (List.mem_cons_self ..)), ih2 fun x hx => hl x (List.mem_cons_of_mem _ hx)]
        refine this r fun q hq e2 => ?_
        have := (List.pairwise_cons.1 h).1 q hq
        rw [e2, e] at this
        exact List.lt_irrefl _ this
      rw [hno]
      conv => rhs; unfold fput
      rw [if_pos e]
      cases r with
      | nil => rfl
      | cons q l =>
        obtain ⟨a, b⟩ := q
        have h3 := (List.pairwise_cons.1 h).1 (a, b) (List.mem_cons_self ..)
        rw [e] at h3
        unfold fput
        rw [if_neg (fun e2 => by rw [e2] at h3; exact List.lt_irrefl _ h3), if_pos h3]
    · rw [if_neg e]
      conv => lhs; unfold fput
      conv => rhs; unfold fput
      rw [if_neg e, if_neg e]
      by_cases e2 : n < m
      · rw [if_pos e2, if_pos e2]
        have hno : fdel r n = r := by
          have : ∀ l : Fs, (∀ q ∈ l, q.1 ≠ n) → fdel l n = l := fun l hl => by
            induction l with
            | nil => rfl
            | cons q l ih2 =>
              obtain ⟨a, b⟩ := q
              unfold fdel
              rw [if_neg (hl _ (List.mem_cons_self ..)), ih2 fun x hx => hl x (List.mem_cons_of_mem _ hx)]
          refine this r fun q hq e3 => ?_
          have := (List.pairwise_cons.1 h).1 q hq
          rw [e3] at this
          exact List.lt_irrefl _ (List.lt_trans e2 this)
        rw [hno]
      · rw [if_neg e2, if_neg e2, ih h2]
theorem dOf_put {fs : Fs} (h : Srt fs) (n : Nm) (f : Fi) : (dOf fs).put (ky n) (fiD f) = dOf (fput fs n f) := by
  unfold dOf
  show DataW.map (DataW.insert _ _) = _
  rw [filter_key, insert_map (fdel fs n) n f _ rfl, put_del h]
  intro p hp e
  have := fnd_del fs n n
  rw [if_pos rfl] at this
  have h2 := fnd_some_iff.2 (List.mem_map_of_mem hp : p.1 ∈ (fdel fs n).map (·.1))
  rw [e, this] at h2
  cases h2
theorem dOf_has (fs : Fs) (n : Nm) : Maps.has (dOf fs) (ky n) = (fnd fs n).isSome := by
  unfold dOf
  rw [Maps.has_eq]
  induction fs with
  | nil => rfl
  | cons p r ih =>
    obtain ⟨m, g⟩ := p
    rw [List.map_cons, List.any_cons, same_key, ih]
    show _ = (if m = n then some g else fnd r n).isSome
    by_cases h : m = n
    · rw [if_pos h]; simp [h]
    · rw [if_neg h]; simp [h]
theorem dOf_at (fs : Fs) (n : Nm) : (dOf fs).atKey (ky n) (fiD Fi.z) = fiD ((fnd fs n).getD Fi.z) := by
  unfold dOf DataW.atKey
  simp only
  induction fs with
  | nil => rfl
  | cons p r ih =>
    obtain ⟨m, g⟩ := p
    rw [List.map_cons, List.find?_cons, same_key]
    show _ = fiD ((if m = n then some g else fnd r n).getD Fi.z)
    by_cases h : m = n
    · rw [if_pos h]; simp [h]
    · rw [if_neg h]; simp only [h, decide_false]; exact ih

def FmAt (P : Program) (k : TypeId) (w : World) (b : Nat) (fs : Fs) : Prop := w.ownsMap P k fileR b fs.length (dOf fs)
structure FmTy (P : Program) (t k e : TypeId) : Prop where
  map : P.underlying t = some (.map k e)
  key : P.underlying k = some .string
  zero : ∀ w, (zeroValue e).run P w = .ok (fiV Fi.z) w
section
variable {P : Program} {t k e : TypeId} {w w' : World} {b n : Nat} {fs : Fs}
theorem owns_size {R : Value → Option (DataW Unit × List MemPlace)} {D : DataW Unit} (h : w.ownsMap P k R b n D) {m : Nat} (hm : Maps.size D ≤ m) : w.ownsMap P k R b m D := by
  obtain ⟨es, clock, hb, F, _, rfl⟩ := h
  refine ⟨es, clock, hb, F, ?_, rfl⟩
  rw [Maps.size_eq] at hm
  exact Nat.le_trans (Nat.le_of_eq (length_read es).symm) hm
theorem FmAt.lt (h : FmAt P k w b fs) : b < w.heap.size := World.ownsMap.lt h
theorem FmAt.block (h : FmAt P k w b fs) (hb : w'.heap[b]? = w.heap[b]?) : FmAt P k w' b fs := by
  obtain ⟨es, clock, h1, h2, h3, h4⟩ := h
  exact ⟨es, clock, hb.trans h1, h2, h3, h4⟩
theorem FmAt.below (h : FmAt P k w b fs) (hb : Below w.heap.size w w') : FmAt P k w' b fs := h.block (hb.block b h.lt)
theorem FmAt.is_map (h : FmAt P k w b fs) : ∃ es clock, w.heap[b]? = some (.map es clock) := by
  obtain ⟨es, clock, h1, _⟩ := h
  exact ⟨es, clock, h1⟩
theorem FmAt.fr {S : Nat → Nat → Prop} (h : FmAt P k w b fs) (hf : Fr S w w') : FmAt P k w' b fs := by
  refine h.block ?_
  rcases hf.blk b h.lt with h1 | ⟨c, c', e', fr, h1, _⟩
  · exact h1
  · obtain ⟨es, clock, h2⟩ := h.is_map
    rw [h2] at h1
    cases h1
theorem FmAt.set (h : FmAt P k w b fs) (k' i : Nat) (u : Value) : FmAt P k (w.setCell ⟨k', i, none⟩ u) b fs := h.fr ((Fr.refl (fun _ _ => True) w).setCell (fun _ => trivial) u)
theorem FmAt.made (w : World) (P : Program) (k : TypeId) : FmAt P k (w.alloc (.map #[] 0)) w.heap.size [] := World.ownsMap_made w P k fileR
theorem FmAt.look (h : FmAt P k w b fs) (T : FmTy P t k e) (l : List UInt8) (hl : l.length ≤ maxLen) : (Instr.lookup t (.map (some b)) (.string (bs l)) false).run P w = .ok (fiV ((fnd fs l).getD Fi.z)) w := by
  obtain ⟨v, ps, hr, hv⟩ := World.ownsMap.lookup h (Maps.string_keyed T.key) T.map (T.zero w) (fileR_of Fi.z) (key_of T.key l hl)
  rw [dOf_at] at hv
  rw [← fileR_inv hv]
  exact hr
theorem FmAt.look_ok (h : FmAt P k w b fs) (T : FmTy P t k e) (l : List UInt8) (hl : l.length ≤ maxLen) : (Instr.lookup t (.map (some b)) (.string (bs l)) true).run P w = .ok (.tuple #[fiV ((fnd fs l).getD Fi.z), .bool (fnd fs l).isSome]) w := by
  obtain ⟨v, ps, hr, hv⟩ := World.ownsMap.look_ok h (Maps.string_keyed T.key) T.map (T.zero w) (fileR_of Fi.z) (key_of T.key l hl)
  rw [dOf_at] at hv
  rw [← fileR_inv hv, ← dOf_has]
  exact hr
end
section
variable {P : Program} (w : World) {ops : Array Oper} {rest : List Oper} {o : Oper} {a : Act} {Q : Exit → Act → World → Prop}
end
end Go.Bar.Wal

namespace Go.Bar.Wal
open Go.RowKit Go.Bar Go.Bar.Leb Go.Bar.Frm

def d10 : Nat → Nat → List UInt8
  | 0, _ => []
  | m + 1, a => d10 m (a / 10) ++ [UInt8.ofNat (48 + a % 10)]
theorem d10_len : ∀ (m a : Nat), (d10 m a).length = m
  | 0, _ => rfl
  | m + 1, a => by rw [d10, List.length_append, d10_len m]; rfl
theorem d10_zero : ∀ m : Nat, d10 m 0 = List.replicate m 48
  | 0 => rfl
  | m + 1 => by rw [d10, Nat.zero_div, d10_zero m, List.replicate_succ']; rfl
theorem pad_d10 : ∀ (m a : Nat), a < 10 ^ (m + 1) → (Lib.decDigits a).length ≤ m + 1 ∧ List.replicate (m + 1 - (Lib.decDigits a).length) 48 ++ Lib.decDigits a = d10 (m + 1) a
  | 0, a, h => by
    have h : a < 10 := by simpa using h
    rw [Lib.decDigits_one h]
    refine ⟨Nat.le_refl _, ?_⟩
    rw [d10, Nat.mod_eq_of_lt h]; rfl
  | m + 1, a, h => by
    by_cases h1 : a < 10
    · rw [Lib.decDigits_one h1]
      refine ⟨by simp, ?_⟩
      rw [d10, Nat.mod_eq_of_lt h1, Nat.div_eq_of_lt h1, d10_zero]; rfl
    · obtain ⟨h2, h3⟩ := pad_d10 m (a / 10) (by rw [Nat.pow_succ] at h; omega)
      rw [Lib.decDigits, dif_neg h1, List.length_append]
      refine ⟨by simp only [List.length_singleton]; omega, ?_⟩
      rw [d10, ← h3, List.append_assoc]
      simp only [List.length_singleton]
      rw [show m + 1 + 1 - ((Lib.decDigits (a / 10)).length + 1) = m + 1 - (Lib.decDigits (a / 10)).length by omega]
theorem dig_toNat (k : Nat) (h : k < 10) : (UInt8.ofNat (48 + k)).toNat = 48 + k := by
  rw [UInt8.toNat_ofNat']; omega
theorem lt_append_left {a b : List UInt8} (h : a < b) (hl : a.length = b.length) (x y : List UInt8) : a ++ x < b ++ y := by
  induction a generalizing b with
  | nil =>
    cases b with
    | nil => exact absurd h (List.lt_irrefl _)
    | cons => cases hl
  | cons c r ih =>
    cases b with
    | nil => cases hl
    | cons d s =>
      rw [List.cons_append, List.cons_append]
      rcases List.cons_lt_cons_iff.1 h with h1 | ⟨rfl, h2⟩
      · exact List.cons_lt_cons_iff.2 (.inl h1)
      · exact List.cons_lt_cons_iff.2 (.inr ⟨rfl, ih h2 (Nat.succ.inj hl)⟩)
theorem append_lt_append {a x y : List UInt8} (h : x < y) : a ++ x < a ++ y := by
  induction a with
  | nil => exact h
  | cons c r ih => exact List.cons_lt_cons_iff.2 (.inr ⟨rfl, ih⟩)
theorem d10_lt : ∀ (m a b : Nat), a < b → b < 10 ^ m → d10 m a < d10 m b
  | 0, a, b, h, hb => by simp at hb; omega
  | m + 1, a, b, h, hb => by
    rw [d10, d10]
    by_cases h1 : a / 10 = b / 10
    · rw [h1]
      refine append_lt_append (List.cons_lt_cons_iff.2 (.inl ?_))
      rw [UInt8.lt_iff_toNat_lt, dig_toNat _ (Nat.mod_lt _ (by decide)), dig_toNat _ (Nat.mod_lt _ (by decide))]
      omega
    · exact lt_append_left (d10_lt m _ _ (by omega) (by rw [Nat.pow_succ] at hb; omega)) (by rw [d10_len, d10_len]) _ _

def pre : Nm := [119, 97, 108, 45]
def tmpN : Nm := [116, 109, 112, 45, 119, 97, 108]
def segN (n : Nat) : Nm := pre ++ (List.replicate (8 - (Lib.decDigits n).length) 48 ++ Lib.decDigits n)
theorem segN_eq {n : Nat} (h : n < 100000000) : segN n = pre ++ d10 8 n := by unfold segN; rw [(pad_d10 7 n (by omega)).2]
theorem segN_len {n : Nat} (h : n < 100000000) : (segN n).length = 12 := by rw [segN_eq h, List.length_append, d10_len]; rfl
theorem segN_lt {a b : Nat} (h : a < b) (hb : b < 100000000) : segN a < segN b := by
  rw [segN_eq (by omega), segN_eq hb]
  exact append_lt_append (d10_lt 8 a b h (by omega))
theorem segN_inj {a b : Nat} (ha : a < 100000000) (hb : b < 100000000) (h : segN a = segN b) : a = b := by
  rcases Nat.lt_trichotomy a b with h1 | h1 | h1
  · have := segN_lt h1 hb; rw [h] at this; exact absurd this (List.lt_irrefl _)
  · exact h1
  · have := segN_lt h1 ha; rw [h] at this; exact absurd this (List.lt_irrefl _)
theorem segN_pre (n : Nat) : pre.isPrefixOf (segN n) = true := by
  rw [List.isPrefixOf_iff_prefix]; exact List.prefix_append _ _
theorem segN_good {n : Nat} (h : n < 100000000) : ¬ badName (segN n) := by
  rintro (h1 | h1)
  · have := segN_len h; rw [h1] at this; cases this
  · have := segN_len h; omega
theorem tmpN_good : ¬ badName tmpN := by decide
theorem tmp_pre : pre.isPrefixOf tmpN = false := by decide
theorem seg_ne_tmp (n : Nat) : segN n ≠ tmpN := fun h => by
  have := segN_pre n
  rw [h, tmp_pre] at this
  cases this

def numOf (l : List UInt8) : Nat := match Lib.atoiAll l with
  | .ok v => if 1 ≤ v ∧ v ≤ 1099511627776 then v.toNat else 0
  | _ => 0
def trim (s : Nm) : List UInt8 := if pre.isPrefixOf s then s.drop 4 else s
def numN (s : Nm) : Nat := if segN (numOf (trim s)) = s then numOf (trim s) else 0
theorem parse_snoc : ∀ (l : List UInt8) (acc u k : Nat), Lib.parseUint10 acc l = .ok u → k < 10 → u < 100000000000 → Lib.parseUint10 acc (l ++ [UInt8.ofNat (48 + k)]) = .ok (u * 10 + k)
  | [], acc, u, k, h, hk, hu => by
    simp only [Lib.parseUint10] at h
    injection h with h
    subst h
    show Lib.parseUint10 acc [UInt8.ofNat (48 + k)] = _
    simp only [Lib.parseUint10, dig_toNat k hk]
    rw [if_pos (by omega), if_neg (by omega), if_neg (by omega), show 48 + k - 48 = k by omega]
  | c :: r, acc, u, k, h, hk, hu => by
    rw [List.cons_append]
    simp only [Lib.parseUint10] at h ⊢
    split at h
    · rename_i h1
      rw [if_pos h1]
      split at h
      · cases h
      · rename_i h2
        rw [if_neg h2]
        split at h
        · cases h
        · rename_i h3
          rw [if_neg h3]
          exact parse_snoc r _ u k h hk hu
    · cases h
theorem parse_d10 : ∀ (m a : Nat), m ≤ 8 → a < 10 ^ m → Lib.parseUint10 0 (d10 m a) = .ok a
  | 0, a, _, h => by
    have : a = 0 := by simpa using h
    rw [this]; rfl
  | m + 1, a, hm, h => by
    rw [d10]
    have h1 : a / 10 < 10 ^ m := by rw [Nat.pow_succ] at h; omega
    have h2 : 10 ^ m ≤ 10 ^ 8 := Nat.pow_le_pow_right (by decide) (by omega)
    rw [parse_snoc _ _ _ _ (parse_d10 m (a / 10) (by omega) h1) (Nat.mod_lt _ (by decide)) (by omega), show a / 10 * 10 + a % 10 = a by omega]
theorem atoi_d10 {a : Nat} (h : a < 100000000) : Lib.atoiAll (d10 8 a) = .ok (a : Int) := by
  have hp := parse_d10 8 a (Nat.le_refl _) (by omega)
  have hl := d10_len 8 a
  cases hc : d10 8 a with
  | nil => rw [hc] at hl; cases hl
  | cons c r =>
    rw [hc] at hp
    have hd : 48 ≤ c.toNat ∧ c.toNat ≤ 57 := by
      simp only [Lib.parseUint10] at hp
      split at hp
      · assumption
      · cases hp
    unfold Lib.atoiAll
    simp only [show ¬ (c.toNat = 43 ∨ c.toNat = 45) by omega, if_false]
    unfold Lib.parseMag
    rw [if_neg (by simp), hp]
    simp only [show ¬ c.toNat = 45 by omega, not_false_eq_true, true_and, false_and, if_false]
    rw [if_neg (by omega)]
theorem trim_seg (n : Nat) (h : n < 100000000) : trim (segN n) = d10 8 n := by
  unfold trim
  rw [if_pos (segN_pre n), segN_eq h]; rfl
theorem numN_seg {n : Nat} (h1 : 1 ≤ n) (h : n < 100000000) : numN (segN n) = n := by
  have e : numOf (trim (segN n)) = n := by
    rw [trim_seg n h]
    unfold numOf
    rw [atoi_d10 h]
    show (if (1 : Int) ≤ (n : Int) ∧ (n : Int) ≤ 1099511627776 then _ else 0) = n
    rw [if_pos (by omega)]; rfl
  unfold numN
  rw [e, if_pos rfl]
end Go.Bar.Wal
