/-
  Plain mathematics of layer 8 (names of blocks): no program in sight; no condition.
-/
import Derived.Test.YtgabmfibfikdbaaGreatDoorZMrgS
import Derived.Lib.Bytealg
import Derived.Test.YtgabmfibfikdbaaGreatDoorZBitM

namespace Go.Bar.Idt
open Go.RowKit Go.Bar

def signs : List UInt8 := [48, 49, 50, 51, 52, 53, 54, 55, 56, 57, 97, 98, 99, 100, 101, 102, 103, 104, 106, 107, 109, 110, 112, 113, 114, 115, 116, 118, 119, 120, 121, 122]
theorem signs_length : signs.length = 32 := rfl
def sgn (k : Nat) : UInt8 := signs.getD k 0
def ix (c : UInt8) : Int := Lib.indexByte signs c
theorem ix_sgn (k : Nat) (h : k < 32) : ix (sgn k) = k := by
  have : ∀ k : Fin 32, ix (sgn k.val) = (k.val : Int) := by decide +kernel
  exact this ⟨k, h⟩
theorem index_of : ∀ (l : List UInt8) (c : UInt8), Lib.indexByte l c = -1 ∧ c ∉ l ∨ ∃ k : Nat, Lib.indexByte l c = k ∧ l[k]? = some c
  | [], c => .inl ⟨rfl, by simp⟩
  | b :: l, c => by
    unfold Lib.indexByte
    by_cases h : b = c
    · subst h
      rw [if_pos (by simp)]
      exact .inr ⟨0, rfl, rfl⟩
    · rw [if_neg (by simpa using h)]
      rcases index_of l c with ⟨h1, h2⟩ | ⟨k, h1, h2⟩
      · rw [h1]
        exact .inl ⟨rfl, by simp [h2]; exact fun e => h e.symm⟩
      · rw [h1, if_neg (by simp)]
        exact .inr ⟨k + 1, by omega, by simpa using h2⟩
theorem ix_of (c : UInt8) : ix c = -1 ∧ c ∉ signs ∨ ∃ k : Nat, ix c = k ∧ k < 32 ∧ sgn k = c := by
  rcases index_of signs c with h | ⟨k, h1, h2⟩
  · exact .inl h
  · obtain ⟨h3, h4⟩ := List.getElem?_eq_some_iff.1 h2
    refine .inr ⟨k, h1, h3, ?_⟩
    unfold sgn
    rw [List.getD_eq_getElem?_getD, h2]
    rfl
theorem sgn_slash (k : Nat) (h : k < 32) : sgn k ≠ 47 := by
  have : ∀ k : Fin 32, sgn k.val ≠ 47 := by decide +kernel
  exact this ⟨k, h⟩

def dg : Nat → Nat → List UInt8
  | 0, _ => []
  | m + 1, n => dg m (n / 32) ++ [sgn (n % 32)]
theorem dg_length : ∀ m n, (dg m n).length = m
  | 0, _ => rfl
  | m + 1, n => by rw [dg, List.length_append, dg_length m]; rfl
theorem dg_cons : ∀ (m n : Nat), dg (m + 1) n = sgn (n / 32 ^ m % 32) :: dg m n
  | 0, n => by simp [dg]
  | m + 1, n => by
    rw [dg, dg_cons m (n / 32), dg, Nat.div_div_eq_div_mul, Nat.pow_succ, Nat.mul_comm (32 ^ m) 32]
    rfl
theorem dg_mem : ∀ (m n : Nat) (c : UInt8), c ∈ dg m n → ∃ k, k < 32 ∧ c = sgn k
  | 0, _, _, h => by simp [dg] at h
  | m + 1, n, c, h => by
    rw [dg, List.mem_append] at h
    rcases h with h | h
    · exact dg_mem m _ c h
    · simp at h; exact ⟨_, Nat.mod_lt _ (by omega), h⟩

theorem dg_more : ∀ (m k n : Nat), dg m (k * 32 ^ m + n) = dg m n
  | 0, _, _ => rfl
  | m + 1, k, n => by
    rw [dg, dg]
    have e1 : (k * 32 ^ (m + 1) + n) / 32 = k * 32 ^ m + n / 32 := by
      rw [Nat.pow_succ, ← Nat.mul_assoc]; omega
    have e2 : (k * 32 ^ (m + 1) + n) % 32 = n % 32 := by
      rw [Nat.pow_succ, ← Nat.mul_assoc]; omega
    rw [e1, e2, dg_more m]

def num : Nat → List UInt8 → Option Nat
  | acc, [] => some acc
  | acc, c :: r => if ix c < 0 then none else num (32 * acc + (ix c).toNat) r
theorem num_append : ∀ (l r : List UInt8) (acc v : Nat), num acc l = some v → num acc (l ++ r) = num v r
  | [], r, acc, v, h => by simp [num] at h; subst h; rfl
  | c :: l, r, acc, v, h => by
    rw [num] at h
    by_cases hc : ix c < 0
    · rw [if_pos hc] at h; cases h
    · rw [if_neg hc] at h
      rw [List.cons_append, num, if_neg hc]
      exact num_append l r _ v h
theorem num_dg : ∀ (m n acc : Nat), n < 32 ^ m → num acc (dg m n) = some (acc * 32 ^ m + n)
  | 0, n, acc, h => by simp at h; subst h; simp [dg, num]
  | m + 1, n, acc, h => by
    have h1 := num_dg m (n / 32) acc (by rw [Nat.pow_succ] at h; omega)
    rw [dg, num_append _ _ _ _ h1, num, ix_sgn _ (Nat.mod_lt _ (by omega)), if_neg (by omega), num]
    congr 1
    rw [Nat.pow_succ, ← Nat.mul_assoc, Int.toNat_natCast]
    omega
theorem num_one : ∀ (l : List UInt8) (acc v : Nat), num acc l = some v → ∃ n, n < 32 ^ l.length ∧ v = acc * 32 ^ l.length + n ∧ l = dg l.length n
  | [], acc, v, h => by simp [num] at h; exact ⟨0, by simp, by simp [h], rfl⟩
  | c :: l, acc, v, h => by
    rw [num] at h
    by_cases hc : ix c < 0
    · rw [if_pos hc] at h; cases h
    · rw [if_neg hc] at h
      obtain ⟨n, h1, h2, h3⟩ := num_one l _ v h
      rcases ix_of c with ⟨g, _⟩ | ⟨k, g1, g2, g3⟩
      · omega
      · rw [g1, Int.toNat_natCast] at h2
        have hp : 0 < 32 ^ l.length := Nat.pow_pos (by omega)
        refine ⟨k * 32 ^ l.length + n, ?_, ?_, ?_⟩
        · rw [List.length_cons, Nat.pow_succ]
          have := Nat.mul_le_mul_right (32 ^ l.length) (show k + 1 ≤ 32 by omega)
          rw [Nat.add_mul] at this
          omega
        · rw [h2, List.length_cons, Nat.pow_succ, Nat.add_mul]
          have : 32 * acc * 32 ^ l.length = acc * (32 ^ l.length * 32) := by
            rw [Nat.mul_comm 32 acc, Nat.mul_assoc, Nat.mul_comm 32]
          omega
        · rw [List.length_cons, dg_cons]
          have e1 : (k * 32 ^ l.length + n) / 32 ^ l.length = k := by
            rw [Nat.mul_comm, Nat.mul_add_div hp, Nat.div_eq_of_lt h1, Nat.add_zero]
          rw [e1, Nat.mod_eq_of_lt g2, g3]
          congr 1
          rw [dg_more, ← h3]
theorem num_lt (l : List UInt8) (v : Nat) (h : num 0 l = some v) : v < 32 ^ l.length := by
  obtain ⟨n, h1, h2, _⟩ := num_one l 0 v h
  omega
theorem num_inj (l : List UInt8) (v : Nat) (h : num 0 l = some v) : l = dg l.length v := by
  obtain ⟨n, h1, h2, h3⟩ := num_one l 0 v h
  rw [show v = n by omega]
  exact h3

def mk (t s : Nat) : List UInt8 := dg 8 t ++ dg 8 s
theorem mk_length (t s : Nat) : (mk t s).length = 16 := by rw [mk, List.length_append, dg_length, dg_length]
def parse (l : List UInt8) : Option (Nat × Nat) :=
  if l.length ≠ 16 then none else match num 0 (l.take 8), num 0 (l.drop 8) with
    | some a, some b => some (a, b)
    | _, _ => none
theorem parse_mk (t s : Nat) (ht : t < 32 ^ 8) (hs : s < 32 ^ 8) : parse (mk t s) = some (t, s) := by
  unfold parse
  rw [if_neg (by rw [mk_length]; simp)]
  have h1 : (mk t s).take 8 = dg 8 t := by rw [mk, List.take_append_of_le_length (by rw [dg_length]; omega), List.take_of_length_le (by rw [dg_length]; omega)]
  have h2 : (mk t s).drop 8 = dg 8 s := by rw [mk, List.drop_append_of_le_length (by rw [dg_length]; omega), List.drop_of_length_le (by rw [dg_length]; omega), List.nil_append]
  rw [h1, h2, num_dg 8 t 0 ht, num_dg 8 s 0 hs]
  simp
theorem parse_one (l : List UInt8) (t s : Nat) (h : parse l = some (t, s)) : l = mk t s ∧ t < 32 ^ 8 ∧ s < 32 ^ 8 := by
  unfold parse at h
  by_cases hl : l.length ≠ 16
  · rw [if_pos hl] at h; cases h
  · rw [if_neg hl] at h
    have hl : l.length = 16 := by omega
    have e1 : (l.take 8).length = 8 := by rw [List.length_take]; omega
    have e2 : (l.drop 8).length = 8 := by rw [List.length_drop]; omega
    rcases h1 : num 0 (l.take 8) with _ | a
    · rw [h1] at h; cases h
    · rcases h2 : num 0 (l.drop 8) with _ | b
      · rw [h1, h2] at h; cases h
      · rw [h1, h2] at h
        simp at h
        obtain ⟨rfl, rfl⟩ := h
        have g1 := num_inj _ _ h1
        have g2 := num_inj _ _ h2
        have g3 := num_lt _ _ h1
        have g4 := num_lt _ _ h2
        rw [e1] at g1 g3
        rw [e2] at g2 g4
        exact ⟨by rw [mk, ← g1, ← g2, List.take_append_drop], g3, g4⟩
theorem parse_slash (l : List UInt8) (h : (parse l).isSome = true) : (47 : UInt8) ∉ l ∧ l.length = 16 := by
  obtain ⟨⟨t, s⟩, hp⟩ := Option.isSome_iff_exists.1 h
  obtain ⟨rfl, _, _⟩ := parse_one l t s hp
  refine ⟨fun hm => ?_, mk_length t s⟩
  rw [mk, List.mem_append] at hm
  rcases hm with hm | hm <;> (obtain ⟨k, hk, he⟩ := dg_mem _ _ _ hm; exact sgn_slash k hk he.symm)

def parts : List (List UInt8) := [[99, 104, 117, 110, 107, 115], [105, 110, 100, 101, 120], [109, 101, 116, 97], [109, 97, 114, 107]]
def split (l : List UInt8) : Option (List UInt8 × List UInt8) :=
  if 17 ≤ l.length ∧ l[16]? = some 47 ∧ (parse (l.take 16)).isSome = true ∧ l.drop 17 ∈ parts then some (l.take 16, l.drop 17) else none

end Go.Bar.Idt

/-
  Plain mathematics of layer 2 (sums, records): no program in sight; no condition.
-/
namespace Go.Bar.Frm
open Go.RowKit Go.Bar Go.Bar.Leb

def bstep (c b : Nat) : Nat := if (c + b) % 2 = 1 then (c / 2) ^^^ 2197175160 else c / 2
def bsteps : Nat → Nat → Nat → Nat
  | 0, c, _ => c
  | n + 1, c, b => bstep (bsteps n c b) (b / 2 ^ n)
def crc : Nat → List UInt8 → Nat
  | c, [] => c
  | c, x :: l => crc (bsteps 8 c x.toNat) l
def no (c : Nat) : Nat := 4294967295 - c
def more (s : Nat) (l : List UInt8) : Nat := no (crc (no s) l)
def sum (l : List UInt8) : Nat := more 0 l

theorem bstep_lt {c b : Nat} (h : c < 4294967296) : bstep c b < 4294967296 := by
  unfold bstep
  split
  · exact Nat.xor_lt_two_pow (n := 32) (by omega) (by omega)
  · omega
theorem bsteps_lt : ∀ (n : Nat) {c b : Nat}, c < 4294967296 → bsteps n c b < 4294967296
  | 0, _, _, h => h
  | n + 1, _, _, h => bstep_lt (bsteps_lt n h)
theorem crc_lt : ∀ (l : List UInt8) {c : Nat}, c < 4294967296 → crc c l < 4294967296
  | [], _, h => h
  | _ :: l, _, h => crc_lt l (bsteps_lt 8 h)
theorem no_lt (c : Nat) : no c < 4294967296 := by unfold no; omega
theorem no_no {c : Nat} (h : c < 4294967296) : no (no c) = c := by unfold no; omega
theorem sum_lt (l : List UInt8) : sum l < 4294967296 := no_lt _
theorem crc_append : ∀ (l m : List UInt8) (c : Nat), crc c (l ++ m) = crc (crc c l) m
  | [], _, _ => rfl
  | _ :: l, m, _ => crc_append l m _
theorem more_more (s : Nat) (l m : List UInt8) : more (more s l) m = more s (l ++ m) := by
  unfold more
  rw [no_no (crc_lt l (no_lt _)), crc_append]
theorem more_sum (l m : List UInt8) : more (sum l) m = sum (l ++ m) := more_more 0 l m
theorem crc_snoc (l : List UInt8) (x : UInt8) (c : Nat) : crc c (l ++ [x]) = bsteps 8 (crc c l) x.toNat := crc_append l [x] c

def fs (x : Nat) : Nat := if x % 2 = 1 then (x / 2) ^^^ 2197175160 else x / 2

abbrev Rc := UInt8 × List UInt8
def sum4 (n : Nat) : List UInt8 := [UInt8.ofNat n, UInt8.ofNat (n / 256), UInt8.ofNat (n / 65536), UInt8.ofNat (n / 16777216)]
def num4 (l : List UInt8) : Nat := (l.getD 0 0).toNat + (l.getD 1 0).toNat * 256 + (l.getD 2 0).toNat * 65536 + (l.getD 3 0).toNat * 16777216
def rsum (r : Rc) : Nat := sum (r.1 :: r.2)
def rec (r : Rc) : List UInt8 := r.1 :: u r.2.length ++ sum4 (rsum r) ++ r.2
theorem num4_sum4 (n : Nat) (h : n < 4294967296) (l : List UInt8) : num4 (sum4 n ++ l) = n := by
  simp [num4, sum4]
  omega
theorem sum4_num4 (l : List UInt8) (h : 4 ≤ l.length) : sum4 (num4 l) = l.take 4 := by
  match l, h with
  | a :: b :: c :: d :: l, _ =>
    have ha := UInt8.toNat_lt a
    have hb := UInt8.toNat_lt b
    have hc := UInt8.toNat_lt c
    have hd := UInt8.toNat_lt d
    simp only [num4, sum4, List.getD_cons_zero, List.getD_cons_succ, List.take_succ_cons, List.take_zero, List.cons.injEq, and_true]
    refine ⟨?_, ?_, ?_, ?_⟩ <;> apply UInt8.toNat_inj.1 <;> simp <;> omega
theorem sum4_len (n : Nat) : (sum4 n).length = 4 := rfl
theorem rec_len (r : Rc) : (rec r).length = 5 + (u r.2.length).length + r.2.length := by
  simp [rec, sum4_len]; omega

def z : Rc := (0, [])
def next : List UInt8 → Rc × List UInt8 × Nat
  | [] => (z, [], 2)
  | k :: l =>
    if (takeMost l 1048576).2.2 ≠ 0 then (z, [], (takeMost l 1048576).2.2)
    else if (takeMost l 1048576).2.1.length < 4 + (takeMost l 1048576).1 then (z, [], 2)
    else if rsum (k, ((takeMost l 1048576).2.1.drop 4).take (takeMost l 1048576).1) ≠ num4 (takeMost l 1048576).2.1 then (z, [], 4)
    else ((k, ((takeMost l 1048576).2.1.drop 4).take (takeMost l 1048576).1), (takeMost l 1048576).2.1.drop (4 + (takeMost l 1048576).1), 0)

theorem takeMost_one (l : List UInt8) (m : Int) (h : (takeMost l m).2.2 = 0) : u (takeMost l m).1 ++ (takeMost l m).2.1 = l := by
  unfold takeMost at h ⊢
  split
  · rename_i hc; rw [if_pos hc] at h; cases h
  · rename_i hc; rw [if_neg hc] at h; exact takeU_one l h
theorem takeMost_le (l : List UInt8) (m : Nat) (h : (takeMost l m).2.2 = 0) : (takeMost l m).1 ≤ m := by
  unfold takeMost at h ⊢
  split
  · omega
  · rename_i hc; rw [if_neg hc] at h; omega

theorem next_one (l : List UInt8) (h : (next l).2.2 = 0) : rec (next l).1 ++ (next l).2.1 = l ∧ (next l).1.2.length ≤ 1048576 := by
  match l with
  | [] => simp [next] at h
  | k :: l =>
    rw [next] at h ⊢
    by_cases h1 : (takeMost l 1048576).2.2 ≠ 0
    · rw [if_pos h1] at h; exact absurd h h1
    · rw [if_neg h1] at h ⊢
      have h1 : (takeMost l 1048576).2.2 = 0 := by omega
      have ho := takeMost_one l 1048576 h1
      have hl := takeMost_le l 1048576 h1
      by_cases h2 : (takeMost l 1048576).2.1.length < 4 + (takeMost l 1048576).1
      · rw [if_pos h2] at h; cases h
      · rw [if_neg h2] at h ⊢
        by_cases h3 : rsum (k, ((takeMost l 1048576).2.1.drop 4).take (takeMost l 1048576).1) ≠ num4 (takeMost l 1048576).2.1
        · rw [if_pos h3] at h; cases h
        · rw [if_neg h3]
          have h3 : rsum (k, ((takeMost l 1048576).2.1.drop 4).take (takeMost l 1048576).1) = num4 (takeMost l 1048576).2.1 := by
            rcases Nat.decEq (rsum (k, ((takeMost l 1048576).2.1.drop 4).take (takeMost l 1048576).1)) (num4 (takeMost l 1048576).2.1) with h | h
            · exact absurd h h3
            · exact h
          generalize (takeMost l 1048576).1 = n at *
          generalize (takeMost l 1048576).2.1 = r at *
          have hd : ((r.drop 4).take n).length = n := by rw [List.length_take, List.length_drop]; omega
          refine ⟨?_, by rw [hd]; exact hl⟩
          simp only [rec, hd, h3]
          rw [sum4_num4 r (by omega), List.append_assoc, List.append_assoc, show r.drop (4 + n) = (r.drop 4).drop n by rw [List.drop_drop], List.take_append_drop, List.cons_append, List.take_append_drop, ho]
theorem next_left (l : List UInt8) (h : (next l).2.2 = 0) : (next l).2.1.length + 6 ≤ l.length := by
  obtain ⟨h1, _⟩ := next_one l h
  have := congrArg List.length h1
  rw [List.length_append, rec_len] at this
  have := u_pos (next l).1.2.length
  omega
theorem next_rec (r : Rc) (t : List UInt8) (h : r.2.length ≤ 1048576) : next (rec r ++ t) = (r, t, 0) := by
  obtain ⟨k, d⟩ := r
  simp only at h
  have e : rec (k, d) ++ t = k :: (u d.length ++ (sum4 (rsum (k, d)) ++ (d ++ t))) := by simp [rec]
  have ht := takeMost_u d.length (sum4 (rsum (k, d)) ++ (d ++ t)) 1048576 (by omega) (by omega)
  rw [e, next, ht]
  have hl : (sum4 (rsum (k, d)) ++ (d ++ t)).length = 4 + d.length + t.length := by simp [sum4_len]; omega
  have hd4 : (sum4 (rsum (k, d)) ++ (d ++ t)).drop 4 = d ++ t := by rw [List.drop_append_of_le_length (by simp [sum4_len]), List.drop_of_length_le (by simp [sum4_len]), List.nil_append]
  rw [if_neg (by simp), if_neg (by simp only; omega)]
  simp only [hd4, List.take_left']
  rw [if_neg (by simp [num4_sum4 _ (show rsum (k, d) < 4294967296 from sum_lt _)])]
  rw [show (4 + d.length) = 4 + d.length from rfl, ← List.drop_drop, hd4, List.drop_left]

def all : Nat → List UInt8 → List Rc × List UInt8
  | 0, l => ([], l)
  | f + 1, l => if (next l).2.2 = 0 then ((next l).1 :: (all f (next l).2.1).1, (all f (next l).2.1).2) else ([], l)
theorem all_stop {f : Nat} {l : List UInt8} (h : (next l).2.2 ≠ 0) : all f l = ([], l) := by
  cases f with
  | zero => rfl
  | succ f => rw [all, if_neg h]
theorem all_go {f : Nat} {l : List UInt8} (h : (next l).2.2 = 0) : all (f + 1) l = ((next l).1 :: (all f (next l).2.1).1, (all f (next l).2.1).2) := by rw [all, if_pos h]
theorem all_fuel : ∀ (f g : Nat) (l : List UInt8), l.length ≤ f → l.length ≤ g → all f l = all g l
  | 0, g, l, hf, _ => by
    obtain rfl := List.eq_nil_of_length_eq_zero (by omega : l.length = 0)
    rw [all_stop (by simp [next]), all_stop (by simp [next])]
  | f + 1, 0, l, _, hg => by
    obtain rfl := List.eq_nil_of_length_eq_zero (by omega : l.length = 0)
    rw [all_stop (by simp [next]), all_stop (by simp [next])]
  | f + 1, g + 1, l, hf, hg => by
    by_cases h : (next l).2.2 = 0
    · have := next_left l h
      rw [all_go h, all_go h, all_fuel f g _ (by omega) (by omega)]
    · rw [all_stop h, all_stop h]
def recs (l : List UInt8) : List Rc := (all l.length l).1
def left (l : List UInt8) : List UInt8 := (all l.length l).2
theorem recs_stop {l : List UInt8} (h : (next l).2.2 ≠ 0) : recs l = [] ∧ left l = l := by
  unfold recs left
  rw [all_stop h]
  exact ⟨rfl, rfl⟩
theorem recs_go {l : List UInt8} (h : (next l).2.2 = 0) : recs l = (next l).1 :: recs (next l).2.1 ∧ left l = left (next l).2.1 := by
  unfold recs left
  have := next_left l h
  obtain ⟨n, hn⟩ : ∃ n, l.length = n + 1 := ⟨l.length - 1, by omega⟩
  rw [hn, all_go h, all_fuel n _ _ (by omega) (Nat.le_refl _)]
  exact ⟨rfl, rfl⟩
theorem left_le (l : List UInt8) : (left l).length ≤ l.length := by
  suffices h : ∀ n (l : List UInt8), l.length ≤ n → (left l).length ≤ l.length from h _ l (Nat.le_refl _)
  intro n
  induction n with
  | zero =>
    intro l hl
    obtain rfl := List.eq_nil_of_length_eq_zero (by omega : l.length = 0)
    exact Nat.le_refl _
  | succ n ih =>
    intro l hl
    by_cases h : (next l).2.2 = 0
    · have h1 := next_left l h
      have := ih (next l).2.1 (by omega)
      rw [(recs_go h).2]
      omega
    · rw [(recs_stop h).2]
      exact Nat.le_refl _
def laid (rs : List Rc) : List UInt8 := rs.flatMap rec
theorem laid_cons (r : Rc) (rs : List Rc) : laid (r :: rs) = rec r ++ laid rs := by simp [laid]
theorem laid_snoc (rs : List Rc) (r : Rc) : laid (rs ++ [r]) = laid rs ++ rec r := by simp [laid]
theorem recs_laid : ∀ (rs : List Rc) (t : List UInt8), (∀ r ∈ rs, r.2.length ≤ 1048576) → (next t).2.2 ≠ 0 → recs (laid rs ++ t) = rs ∧ left (laid rs ++ t) = t
  | [], t, _, ht => by simpa [laid] using recs_stop ht
  | r :: rs, t, h, ht => by
    have h1 := next_rec r (laid rs ++ t) (h r (by simp))
    rw [laid_cons, List.append_assoc]
    obtain ⟨h2, h3⟩ := recs_go (l := rec r ++ (laid rs ++ t)) (by rw [h1])
    obtain ⟨h4, h5⟩ := recs_laid rs t (fun r hr => h r (by simp [hr])) ht
    rw [h1] at h2 h3
    exact ⟨by rw [h2, h4], by rw [h3, h5]⟩
def whole (rs : List Rc) (cut : Nat) : Nat × Nat :=
  match rs with
  | [] => (0, 0)
  | r :: rs => if (rec r).length ≤ cut then ((whole rs (cut - (rec r).length)).1 + 1, (whole rs (cut - (rec r).length)).2 + (rec r).length) else (0, 0)
theorem next_nil : (next []).2.2 ≠ 0 := by simp [next]

end Go.Bar.Frm

/-
  Plain mathematics of layer 9 (metas and marks): no program in sight; no condition.
-/
namespace Go.Bar.Met
open Go.RowKit Go.Bar Go.Bar.Leb Go.Bar.Frm Go.Bar.Idt

def txt (l : List UInt8) : List UInt8 := u l.length ++ l
def w64 (z : Int) : Nat := (z % 18446744073709551616).toNat
theorem w64_lt (z : Int) : w64 z < 18446744073709551616 := by unfold w64; omega
theorem w64_of (z : Int) (h : 0 ≤ z) (h2 : z < 18446744073709551616) : (w64 z : Int) = z := by unfold w64; omega
structure Fl where
  name : List UInt8
  size : Int
  sum : Nat
structure Mt where
  id : List UInt8
  mn : Int
  mx : Int
  lv : Int
  sr : Int
  sm : Int
  fs : List Fl
  ss : List (List UInt8)
def flB (f : Fl) : List UInt8 := txt f.name ++ (u (w64 f.size) ++ u f.sum)
def fields (m : Mt) : List UInt8 := txt m.id ++ (u (w64 m.mn) ++ (u (w64 m.mx) ++ (u (w64 m.lv) ++ (u (w64 m.sr) ++ (u (w64 m.sm) ++ (m.fs.flatMap flB ++ (u m.ss.length ++ m.ss.flatMap txt)))))))

def only (s : List UInt8) (k : UInt8) : List UInt8 × Nat := ((next s).1.2, if (next s).2.2 = 0 ∧ ((next s).2.1 ≠ [] ∨ (next s).1.1 ≠ k) then 3 else (next s).2.2)
def idOk (l : List UInt8) : Bool := (parse l).isSome

def prev (ss : List (List UInt8)) (i : Nat) : List UInt8 := if i = 0 then [] else ss.getD (i - 1) []
def good (m : Mt) (i : Nat) : Prop := idOk (m.ss.getD i []) = true ∧ m.ss.getD i [] ≠ m.id ∧ Op.bytesLess (prev m.ss i) (m.ss.getD i []) = true
def chunksN : List UInt8 := [99, 104, 117, 110, 107, 115]
def indexN : List UInt8 := [105, 110, 100, 101, 120]
def fileOk (m : Mt) (i : Nat) : Prop := (m.fs.getD i ⟨[], 0, 0⟩).name = (if i = 0 then chunksN else indexN) ∧ 0 ≤ (m.fs.getD i ⟨[], 0, 0⟩).size ∧ (m.fs.getD i ⟨[], 0, 0⟩).size ≤ 1048576
def sane (m : Mt) : Prop := idOk m.id = true ∧ 0 ≤ m.mn ∧ m.mn < m.mx ∧ m.mx ≤ 1099511627776 ∧ 1 ≤ m.lv ∧ m.lv ≤ 9 ∧ 0 ≤ m.sr ∧ m.sr ≤ m.sm ∧ m.sm ≤ 1073741824
def Ok (m : Mt) : Prop := sane m ∧ m.fs.length = 2 ∧ m.ss.length ≤ 50 ∧ (∀ i, i < 2 → fileOk m i) ∧ ∀ i, i < m.ss.length → good m i
open Classical in
noncomputable def chk (m : Mt) : Int := if Ok m then 0 else 3
theorem chk_ok {m : Mt} (h : Ok m) : chk m = 0 := by unfold chk; rw [if_pos h]
theorem chk_no {m : Mt} (h : ¬ Ok m) : chk m = 3 := by unfold chk; rw [if_neg h]

theorem idOk_len {l : List UInt8} (h : idOk l = true) : l.length = 16 := (parse_slash l h).2
theorem idOk_mk (t s : Nat) (ht : t < 32 ^ 8) (hs : s < 32 ^ 8) : idOk (mk t s) = true := by unfold idOk; rw [parse_mk t s ht hs]; rfl

theorem Ok.src {m : Mt} (h : Ok m) : ∀ s ∈ m.ss, s.length ≤ 16 := by
  intro s hs
  obtain ⟨i, hi⟩ := List.mem_iff_getElem?.1 hs
  have hl := (List.getElem?_eq_some_iff.1 hi).1
  have := (h.2.2.2.2 i hl).1
  rw [List.getD_eq_getElem?_getD, hi] at this
  exact Nat.le_of_eq (idOk_len this)

theorem only_rec (k : UInt8) (d : List UInt8) (h : d.length ≤ 1048576) : only (rec (k, d)) k = (d, 0) := by
  have := next_rec (k, d) [] h
  rw [List.append_nil] at this
  unfold only
  rw [this]
  simp

def made (m : Mt) (tick seq : Int) : Mt :=
  ⟨mk (1 + (tick % 1024).toNat) (seq % 1024).toNat, m.mn % 1048576, m.mn % 1048576 + 1 + m.mx % 65536, 1 + m.lv % 8, m.sr % 1024, m.sr % 1024 + m.sm % 1024,
    [⟨chunksN, 1, sum [99]⟩, ⟨indexN, (m.id.take 20).length, sum (m.id.take 20)⟩], (List.range (min m.ss.length 9)).map fun i => mk 0 i⟩

end Go.Bar.Met

/-
  Layer 16 (blocks): plain mathematics of entries and of chunks: no program in sight; no condition.
-/
namespace Go.Bar.Bok
open Go.RowKit Go.Bar Go.Bar.Leb Go.Bar.Frm Go.Bar.Lab Go.Bar.Xor Go.Bar.Mrg Go.Bar.Met

structure En where
  ls : List Pr
  fr : Int
  n : Int
  mn : Int
  mx : Int
def En.z : En := ⟨[], 0, 0, 0, 0⟩
def enT (x : En) : List UInt8 := u (w64 x.fr) ++ (u (w64 x.n) ++ (u (w64 x.mn) ++ u (w64 x.mx)))
def enB (x : En) : List UInt8 := key x.ls ++ enT x
def idxD (l : List En) : List UInt8 := u l.length ++ l.flatMap enB
def idxB (l : List En) : List UInt8 := Frm.rec (5, idxD l)

def tN : List Int → List UInt8 → List Nat × List UInt8 × Nat
  | [], s => ([], s, 0)
  | m :: ms, s => if (takeMost s m).2.2 ≠ 0 then ([], [], (takeMost s m).2.2) else
      if (tN ms (takeMost s m).2.1).2.2 ≠ 0 then ([], [], (tN ms (takeMost s m).2.1).2.2) else ((takeMost s m).1 :: (tN ms (takeMost s m).2.1).1, (tN ms (takeMost s m).2.1).2.1, 0)
def mosts : List Int := [1048576, 1048576, 1099511627776, 1099511627776]
def glue (l : List Nat) (R : List Nat × List UInt8 × Nat) : List Nat × List UInt8 × Nat := if R.2.2 ≠ 0 then ([], [], R.2.2) else (l ++ R.1, R.2.1, 0)
theorem tN_err : ∀ (ms : List Int) (s : List UInt8), (tN ms s).2.2 ≠ 0 → (tN ms s) = ([], [], (tN ms s).2.2)
  | [], s => fun h => absurd rfl h
  | m :: ms, s => fun h => by
    unfold tN at h ⊢
    by_cases h1 : (takeMost s m).2.2 ≠ 0
    · rw [if_pos h1]
    · rw [if_neg h1] at h ⊢
      by_cases h2 : (tN ms (takeMost s m).2.1).2.2 ≠ 0
      · rw [if_pos h2]
      · rw [if_neg h2] at h
        exact absurd rfl h
theorem glue_nil (ms : List Int) (s : List UInt8) : glue [] (tN ms s) = tN ms s := by
  unfold glue
  by_cases h : (tN ms s).2.2 ≠ 0
  · rw [if_pos h]; exact (tN_err ms s h).symm
  · rw [if_neg h, List.nil_append]
    have h : (tN ms s).2.2 = 0 := Decidable.not_not.1 h
    rw [← h]
theorem glue_bad {l : List Nat} {m : Int} {ms : List Int} {s : List UInt8} (h : (takeMost s m).2.2 ≠ 0) : glue l (tN (m :: ms) s) = ([], [], (takeMost s m).2.2) := by
  unfold glue tN
  rw [if_pos h]
  simp only
  rw [if_pos h]
theorem glue_step {l : List Nat} {m : Int} {ms : List Int} {s : List UInt8} (h : (takeMost s m).2.2 = 0) : glue l (tN (m :: ms) s) = glue (l ++ [(takeMost s m).1]) (tN ms (takeMost s m).2.1) := by
  have e : tN (m :: ms) s = if (tN ms (takeMost s m).2.1).2.2 ≠ 0 then ([], [], (tN ms (takeMost s m).2.1).2.2) else ((takeMost s m).1 :: (tN ms (takeMost s m).2.1).1, (tN ms (takeMost s m).2.1).2.1, 0) := by
    rw [tN, if_neg (fun hh => hh h)]
  by_cases h2 : (tN ms (takeMost s m).2.1).2.2 ≠ 0
  · rw [if_pos h2] at e
    unfold glue
    rw [e, if_pos h2, if_pos h2]
  · rw [if_neg h2] at e
    unfold glue
    rw [e, if_neg h2, if_neg (fun hh => hh rfl), List.append_assoc]
    rfl
theorem tN_four {a b c d : Nat} (r : List UInt8) (ha : a ≤ 1048576) (hb : b ≤ 1048576) (hc : c ≤ 1099511627776) (hd : d ≤ 1099511627776) : tN mosts (u a ++ (u b ++ (u c ++ u d)) ++ r) = ([a, b, c, d], r, 0) := by
  unfold mosts
  rw [List.append_assoc, List.append_assoc, List.append_assoc]
  unfold tN
  rw [takeMost_u a _ _ (by omega) (by omega)]
  unfold tN
  simp only
  rw [takeMost_u b _ _ (by omega) (by omega)]
  unfold tN
  simp only
  rw [takeMost_u c _ _ (by omega) (by omega)]
  unfold tN
  simp only
  rw [takeMost_u d _ _ (by omega) (by omega)]
  rfl

def tEn (s : List UInt8) : En × List UInt8 × Nat :=
  if (Lab.take s).2.2 ≠ 0 then (En.z, [], (Lab.take s).2.2)
  else if (tN mosts (Lab.take s).2.1).2.2 ≠ 0 then (En.z, [], (tN mosts (Lab.take s).2.1).2.2)
  else if (tN mosts (Lab.take s).2.1).1.getD 1 0 = 0 ∨ (tN mosts (Lab.take s).2.1).1.getD 3 0 < (tN mosts (Lab.take s).2.1).1.getD 2 0 then (En.z, [], 3)
  else (⟨(Lab.take s).1, (tN mosts (Lab.take s).2.1).1.getD 0 0, (tN mosts (Lab.take s).2.1).1.getD 1 0, (tN mosts (Lab.take s).2.1).1.getD 2 0, (tN mosts (Lab.take s).2.1).1.getD 3 0⟩, (tN mosts (Lab.take s).2.1).2.1, 0)
structure EnOk (x : En) : Prop where
  lab : Lab.Ok x.ls
  fr : 0 ≤ x.fr ∧ x.fr ≤ 1048576
  n : 1 ≤ x.n ∧ x.n ≤ 1048576
  mn : 0 ≤ x.mn
  mm : x.mn ≤ x.mx
  mx : x.mx ≤ 1099511627776
theorem tEn_of {x : En} (h : EnOk x) (r : List UInt8) : tEn (enB x ++ r) = (x, r, 0) := by
  obtain ⟨h1, h2, h3, h4, h5, h6⟩ := h
  have e := take_key h1 (enT x ++ r)
  have e2 : tN mosts (enT x ++ r) = ([w64 x.fr, w64 x.n, w64 x.mn, w64 x.mx], r, 0) := tN_four r (by unfold w64; omega) (by unfold w64; omega) (by unfold w64; omega) (by unfold w64; omega)
  unfold tEn enB
  rw [List.append_assoc, e]
  simp only
  rw [if_neg (by omega), e2]
  simp only
  rw [if_neg (by omega)]
  show (if w64 x.n = 0 ∨ w64 x.mx < w64 x.mn then _ else ((⟨x.ls, (w64 x.fr : Nat), (w64 x.n : Nat), (w64 x.mn : Nat), (w64 x.mx : Nat)⟩ : En), r, 0)) = _
  rw [if_neg (by unfold w64; omega), w64_of _ h2.1 (by omega), w64_of _ (by omega) (by omega), w64_of _ h4 (by omega), w64_of _ (by omega) (by omega)]
def early (out : List En) (x : En) : Prop := ∃ p, out.getLast? = some p ∧ 0 ≤ cmpL p.ls x.ls
instance (out : List En) (x : En) : Decidable (early out x) := by
  unfold early
  rcases out.getLast? with _ | p
  · exact isFalse (by simp)
  · exact decidable_of_iff (0 ≤ cmpL p.ls x.ls) (by simp)
def tEns : Nat → List UInt8 → List En → List En × List UInt8 × Nat
  | 0, s, out => (out, s, 0)
  | n + 1, s, out => if (tEn s).2.2 ≠ 0 then ([], [], (tEn s).2.2) else if early out (tEn s).1 then ([], [], 3) else tEns n (tEn s).2.1 (out ++ [(tEn s).1])
def ensD (d : List UInt8) : List En × Nat :=
  if (takeMost d 10000).2.2 ≠ 0 then ([], (takeMost d 10000).2.2)
  else if (tEns (takeMost d 10000).1 (takeMost d 10000).2.1 []).2.2 ≠ 0 then ([], (tEns (takeMost d 10000).1 (takeMost d 10000).2.1 []).2.2)
  else if (tEns (takeMost d 10000).1 (takeMost d 10000).2.1 []).2.1 ≠ [] then ([], 3) else ((tEns (takeMost d 10000).1 (takeMost d 10000).2.1 []).1, 0)
def entriesR (s : List UInt8) : List En × Nat := if (only s 5).2 ≠ 0 then ([], (only s 5).2) else ensD (only s 5).1
theorem tEns_of : ∀ (l out : List En) (r : List UInt8), (∀ x ∈ l, EnOk x) → (out ++ l).Pairwise (fun a b => cmpL a.ls b.ls < 0) → tEns l.length (l.flatMap enB ++ r) out = (out ++ l, r, 0)
  | [], out, r, _, _ => by rw [List.append_nil]; rfl
  | x :: l, out, r, h, hp => by
    have hx := tEn_of (h x (List.mem_cons_self ..)) (l.flatMap enB ++ r)
    rw [List.flatMap_cons, List.append_assoc, List.length_cons, tEns, hx]
    simp only
    rw [if_neg (by omega), if_neg (by
      rintro ⟨p, hp1, hp2⟩
      have hm := List.mem_of_getLast? hp1
      have := (List.pairwise_append.1 hp).2.2 p hm x (List.mem_cons_self ..)
      omega)]
    have ih := tEns_of l (out ++ [x]) r (fun y hy => h y (List.mem_cons_of_mem _ hy)) (by rw [List.append_assoc]; exact hp)
    rw [ih, List.append_assoc]
    rfl
theorem entriesR_of {l : List En} (h : ∀ x ∈ l, EnOk x) (hp : l.Pairwise (fun a b => cmpL a.ls b.ls < 0)) (hn : l.length ≤ 10000) (hd : (idxD l).length ≤ 1048576) : entriesR (idxB l) = (l, 0) := by
  unfold entriesR idxB
  rw [only_rec 5 _ hd]
  simp only
  rw [if_neg (by omega)]
  unfold ensD idxD
  rw [takeMost_u _ _ 10000 (by omega) (by omega)]
  simp only
  have ht := tEns_of l [] [] h hp
  rw [List.append_nil, List.nil_append] at ht
  rw [if_neg (by omega), ht]
  simp

def late (out some : List Sm) : Prop := ∃ a b, out.getLast? = Option.some a ∧ some.head? = Option.some b ∧ b.1 ≤ a.1
instance (out l : List Sm) : Decidable (late out l) := by
  unfold late
  rcases out.getLast? with _ | a
  · exact isFalse (by simp)
  · rcases l.head? with _ | b
    · exact isFalse (by simp)
    · exact decidable_of_iff (b.1 ≤ a.1) (by simp)
def tSm : List Rc → List Sm → Option (List Sm)
  | [], out => some out
  | r :: rs, out => if (samplesR r.2).2 ≠ 0 ∨ r.1 ≠ 4 ∨ (samplesR r.2).1 = [] ∨ late out (samplesR r.2).1 then none else tSm rs (out ++ (samplesR r.2).1)
def smpsR (s : List UInt8) : List Sm × Nat := if left s ≠ [] then ([], 4) else match tSm (recs s) [] with | none => ([], 3) | some l => (l, 0)
theorem samplesR_len (w : List UInt8) : (samplesR w).1.length ≤ 120 := by
  rcases samplesR_prop w with ⟨_, h2, _, h4⟩ | ⟨h, _⟩
  · have h5 := ofS_ok (samplesR w).1 St.zero St.zero_ok h4
    have h6 := h5.n
    have h7 := (ofS_more (samplesR w).1 St.zero (ofS St.zero (samplesR w).1).1 (by rw [← h2])).2
    have h8 : St.zero.n = 0 := rfl
    omega
  · rw [h]; exact Nat.zero_le _
theorem tSm_len : ∀ (rs : List Rc) (out l : List Sm), tSm rs out = some l → l.length ≤ out.length + 120 * rs.length
  | [], out, l, h => by injection h with h; rw [h]; simp
  | r :: rs, out, l, h => by
    unfold tSm at h
    split at h
    · cases h
    · have := tSm_len rs _ l h
      have h2 := samplesR_len r.2
      rw [List.length_append] at this
      rw [List.length_cons]
      omega

def part (L : List Sm) (j : Nat) : List Sm := (L.drop (120 * j)).take 120
def ckT (L : List Sm) (j : Nat) : List UInt8 := Xor.text (ofS St.zero (part L j)).1
def nP (L : List Sm) : Nat := (L.length + 119) / 120
def ckR (L : List Sm) (m : Nat) : List Rc := (List.range m).map (fun j => (4, ckT L j))
def chB (L : List Sm) : List UInt8 := laid (ckR L (nP L))
theorem ckR_succ (L : List Sm) (m : Nat) : ckR L (m + 1) = ckR L m ++ [(4, ckT L m)] := by unfold ckR; rw [List.range_succ, List.map_append]; rfl
structure SmOk (L : List Sm) : Prop where
  ris : Ris L
  tm : ∀ x ∈ L, 0 ≤ x.1 ∧ x.1 ≤ 1099511627776
  v : ∀ x ∈ L, x.2 < 18446744073709551616
theorem put_n (s : St) (x : Sm) : (s.put x).n = s.n + 1 ∧ (s.put x).t = x.1 := by
  unfold St.put
  split
  · rename_i h; exact ⟨by simp [h], rfl⟩
  · exact ⟨rfl, rfl⟩
theorem ofS_rises : ∀ (l : List Sm) (s : St), l.Pairwise (fun a b => a.1 < b.1) → (∀ x ∈ l, 0 ≤ x.1 ∧ x.1 ≤ 1099511627776) → s.n + l.length ≤ 120 → (0 < s.n → ∀ x ∈ l, s.t < x.1) → (ofS s l).2 = 0
  | [], _, _, _, _, _ => rfl
  | x :: l, s, h, hb, hn, ht => by
    rw [List.length_cons] at hn
    obtain ⟨b1, b2⟩ := hb x (by simp)
    have he : err s x = 0 := by
      unfold err
      rw [if_neg (by omega), if_neg (by rintro ⟨h1, h2⟩; have := ht h1 x (by simp); omega), if_neg (by omega)]
    rw [ofS, if_pos he]
    obtain ⟨p1, p2⟩ := put_n s x
    have hp := List.pairwise_cons.1 h
    exact ofS_rises l (s.put x) hp.2 (fun y hy => hb y (by simp [hy])) (by omega) (fun _ y hy => by rw [p2]; exact hp.1 y hy)
theorem part_sub (L : List Sm) (j : Nat) : (part L j).Sublist L := (List.take_sublist _ _).trans (List.drop_sublist _ _)
theorem part_len (L : List Sm) (j : Nat) : (part L j).length ≤ 120 := by unfold part; rw [List.length_take]; omega
theorem part_of {L : List Sm} (h : SmOk L) (j : Nat) : (ofS St.zero (part L j)).2 = 0 :=
  ofS_rises _ _ (h.ris.sublist (part_sub L j)) (fun x hx => h.tm x ((part_sub L j).mem hx)) (by have := part_len L j; show 0 + _ ≤ _; omega) (fun h => absurd h (by decide))
theorem part_v {L : List Sm} (h : SmOk L) (j : Nat) : ∀ x ∈ part L j, x.2 < 18446744073709551616 := fun x hx => h.v x ((part_sub L j).mem hx)
theorem part_ne {L : List Sm} {j : Nat} (h : j < nP L) : part L j ≠ [] := by
  intro he
  have h1 : (part L j).length = 0 := by rw [he]; rfl
  unfold part at h1
  unfold nP at h
  rw [List.length_take, List.length_drop] at h1
  omega
theorem ckT_samples {L : List Sm} (h : SmOk L) (j : Nat) : samplesR (ckT L j) = (part L j, 0) := samplesR_of (Prod.ext rfl (part_of h j)) (part_v h j)
theorem ckT_len {L : List Sm} (h : SmOk L) (j : Nat) : (ckT L j).length ≤ 2300 := by
  have hok := ofS_ok (part L j) St.zero St.zero_ok (part_v h j)
  have h1 := hok.n
  have h2 := hok.len
  have u1 := u_len (ofS St.zero (part L j)).1.n (by omega)
  have u2 := u_len (ofS St.zero (part L j)).1.bits.length (by omega)
  show (Xor.text _).length ≤ _
  unfold Xor.text
  rw [List.length_append, List.length_append, Bit.pack_length]
  omega
theorem take_part (L : List Sm) (m : Nat) : L.take (120 * (m + 1)) = L.take (120 * m) ++ part L m := by
  rw [show 120 * (m + 1) = 120 * m + 120 by omega, List.take_add]
  rfl
theorem tSm_append : ∀ (rs rs' : List Rc) (out l : List Sm), tSm rs out = some l → tSm (rs ++ rs') out = tSm rs' l
  | [], rs', out, l, h => by injection h with h; rw [h]; rfl
  | r :: rs, rs', out, l, h => by
    rw [List.cons_append, tSm]
    rw [tSm] at h
    split at h
    · cases h
    · rename_i hc
      rw [if_neg hc]
      exact tSm_append rs rs' _ l h
theorem tSm_ck {L : List Sm} (h : SmOk L) : ∀ m, m ≤ nP L → tSm (ckR L m) [] = some (L.take (120 * m))
  | 0, _ => by simp [ckR, tSm]
  | m + 1, hm => by
    have ih := tSm_ck h m (by omega)
    rw [ckR_succ, tSm_append _ _ _ _ ih]
    unfold tSm
    simp only [ckT_samples h m]
    rw [if_neg, take_part]
    · rfl
    · rintro (h1 | h1 | h1 | ⟨a, b, h1, h2, h3⟩)
      · exact h1 rfl
      · exact h1 rfl
      · exact part_ne (by omega) h1
      · have hr := h.ris
        unfold Ris at hr
        rw [← List.take_append_drop (120 * m) L] at hr
        have hb : b ∈ L.drop (120 * m) := (List.take_sublist 120 _).mem (List.mem_of_mem_head? h2)
        have := (List.pairwise_append.1 hr).2.2 a (List.mem_of_getLast? h1) b hb
        omega
theorem smpsR_of {L : List Sm} (h : SmOk L) : smpsR (chB L) = (L, 0) := by
  have hr := recs_laid (ckR L (nP L)) [] (fun r hr => by
    unfold ckR at hr
    obtain ⟨j, _, rfl⟩ := List.mem_map.1 hr
    have := ckT_len h j
    show (ckT L j).length ≤ _
    omega) next_nil
  rw [List.append_nil] at hr
  unfold smpsR chB
  rw [hr.2, hr.1, if_neg (by simp), tSm_ck h _ (Nat.le_refl _)]
  have : L.take (120 * nP L) = L := List.take_of_length_le (by unfold nP; omega)
  rw [this]
theorem chB_len {L : List Sm} (h : SmOk L) : (chB L).length ≤ 2400 * nP L := by
  have hh : ∀ m, (laid (ckR L m)).length ≤ 2400 * m := by
    intro m
    induction m with
    | zero => exact Nat.le_refl _
    | succ m ih =>
      rw [ckR_succ, laid_snoc, List.length_append, rec_len]
      have h1 := ckT_len h m
      have h2 := u_len (ckT L m).length (by omega)
      show _ + (5 + (u (ckT L m).length).length + (ckT L m).length) ≤ _
      omega
  exact hh _
end Go.Bar.Bok

/-
  Layer 14: plain: tables said by their values (a sample of labels and a time); the reference's Add and Between.
-/
namespace Go.Bar.Mrg
open Go.RowKit Go.Bar Go.Bar.Xor Go.Bar.Lab

def val (R : List Row) (L : List Pr) (t : Int) : Option Sm := (rk R L).bind (fun s => lk s t)
structure Tb (R : List Row) : Prop where
  rls : Rls R
  ris : ∀ r ∈ R, Ris r.2
  ne : ∀ r ∈ R, r.2 ≠ []
theorem Tb.nil : Tb [] := ⟨List.Pairwise.nil, fun _ h => (by cases h), fun _ h => (by cases h)⟩




end Go.Bar.Mrg

/-
  Layer 14: plain: how many samples rows have; are rows a table? No condition.
-/
namespace Go.Bar.Mrg
open Go.RowKit Go.Bar Go.Bar.Xor Go.Bar.Lab

def cntR (R : List Row) : Nat := (R.map (fun r => r.2.length)).sum
theorem cntR_snoc (R : List Row) (r : Row) : cntR (R ++ [r]) = cntR R + r.2.length := by unfold cntR; rw [List.map_append, List.sum_append]; simp
theorem cntR_take (R : List Row) (k : Nat) : cntR (R.take k) ≤ cntR R := by
  conv => rhs; rw [← List.take_append_drop k R]
  unfold cntR
  rw [List.map_append, List.sum_append]
  omega
def GoodP (R : List Row) : Prop := Rls R ∧ ∀ r ∈ R, Ris r.2
open Classical in
noncomputable def goodB (R : List Row) : Bool := decide (GoodP R)
theorem goodB_true {R : List Row} (h : GoodP R) : goodB R = true := by unfold goodB; simp [h]
theorem goodB_false {R : List Row} (h : ¬ GoodP R) : goodB R = false := by unfold goodB; simp [h]
theorem Tb.good {R : List Row} (h : Tb R) : GoodP R := ⟨h.rls, h.ris⟩
section
variable {α : Type} {lt : α → α → Prop} {l : List α} {k : Nat} {x y : α}
theorem pw_step (htr : ∀ a b c, lt a b → lt b c → lt a c) (h : (l.take (k + 1)).Pairwise lt) (hx : l[k]? = some x) (hy : l[k + 1]? = some y) (hxy : lt x y) : (l.take (k + 2)).Pairwise lt := by
  rw [List.take_add_one, hy]
  refine List.pairwise_append.2 ⟨h, List.pairwise_singleton _ _, fun a ha b hb => ?_⟩
  obtain rfl := List.mem_singleton.1 hb
  rw [List.take_add_one, hx] at h ha
  rcases List.mem_append.1 ha with h1 | h1
  · exact htr a x b ((List.pairwise_append.1 h).2.2 a h1 x (by simp)) hxy
  · obtain rfl : a = x := by simpa using h1
    exact hxy
theorem pw_at (h : l.Pairwise lt) (hx : l[k]? = some x) (hy : l[k + 1]? = some y) : lt x y := by
  obtain ⟨h1, rfl⟩ := List.getElem?_eq_some_iff.1 hx
  obtain ⟨h2, rfl⟩ := List.getElem?_eq_some_iff.1 hy
  exact (List.pairwise_iff_getElem.1 h) k (k + 1) h1 h2 (Nat.lt_succ_self _)
end
theorem good_zero : GoodP ([] : List Row) := ⟨List.Pairwise.nil, fun _ h => (by cases h)⟩
theorem good_first {R : List Row} {r : Row} (h0 : R[0]? = some r) (hr : Ris r.2) : GoodP (R.take (0 + 1)) := by
  rw [List.take_add_one, h0]
  exact ⟨List.pairwise_singleton _ _, fun x hx => by obtain rfl : x = r := by simpa using hx
                                                     exact hr⟩
theorem good_step {R : List Row} {k : Nat} {p r : Row} (h : GoodP (R.take (k + 1))) (hp : R[k]? = some p) (hr : R[k + 1]? = some r) (hlt : cmpL p.1 r.1 < 0) (hi : Ris r.2) : GoodP (R.take (k + 1 + 1)) := by
  refine ⟨pw_step (fun a b c => cmpL_lt_trans) h.1 hp hr hlt, fun x hx => ?_⟩
  rw [List.take_add_one, hr] at hx
  rcases List.mem_append.1 hx with h1 | h1
  · exact h.2 x h1
  · obtain rfl : x = r := by simpa using h1
    exact hi
theorem ris_step {l : List Sm} {k : Nat} {x y : Sm} (h : Ris (l.take (k + 1))) (hx : l[k]? = some x) (hy : l[k + 1]? = some y) (hxy : x.1 < y.1) : Ris (l.take (k + 2)) :=
  pw_step (fun _ _ _ => Int.lt_trans) h hx hy hxy
theorem ris_one (l : List Sm) : Ris (l.take (0 + 1)) := by
  rcases l with _ | ⟨x, l⟩
  · exact List.Pairwise.nil
  · exact List.pairwise_singleton _ _
theorem bad_labels {R : List Row} {k : Nat} {p r : Row} (hp : R[k]? = some p) (hr : R[k + 1]? = some r) (hlt : ¬ cmpL p.1 r.1 < 0) : ¬ GoodP R := fun h => hlt (pw_at (lt := fun a b : Row => cmpL a.1 b.1 < 0) h.1 hp hr)
theorem bad_times {R : List Row} {k j : Nat} {r : Row} {x y : Sm} (hr : R[k]? = some r) (hx : r.2[j]? = some x) (hy : r.2[j + 1]? = some y) (hlt : ¬ x.1 < y.1) : ¬ GoodP R := fun h => hlt (pw_at (lt := fun a b : Sm => a.1 < b.1) (h.2 r (List.mem_of_getElem? hr)) hx hy)
end Go.Bar.Mrg

/-
  Layer 16 (blocks): plain mathematics of what is built of a table, and of a block's table: no condition.
-/
namespace Go.Bar.Bok
open Go.RowKit Go.Bar Go.Bar.Leb Go.Bar.Frm Go.Bar.Lab Go.Bar.Xor Go.Bar.Mrg Go.Bar.Met

def first (L : List Sm) : Int := (L.headD (0, 0)).1
def last (L : List Sm) : Int := (L.getLastD (0, 0)).1
structure RowOk (a b : Int) (r : Row) : Prop where
  ne : r.2 ≠ []
  lab : Lab.Ok r.1
  fr : a ≤ first r.2
  to : last r.2 < b
  tm : ∀ x ∈ r.2, 0 ≤ x.1 ∧ x.1 ≤ 1099511627776
def rEn (r : Row) (at_ : Nat) : En := ⟨r.1, at_, (chB r.2).length, first r.2, last r.2⟩
def bEn : List Row → Nat → List En
  | [], _ => []
  | r :: R, a => rEn r a :: bEn R (a + (chB r.2).length)
def bCh (R : List Row) : List UInt8 := R.flatMap fun r => chB r.2
def bMt (id : List UInt8) (a b lv : Int) (ss : List (List UInt8)) (R : List Row) : Mt :=
  ⟨id, a, b, lv, R.length, cntR R, [⟨chunksN, (bCh R).length, Frm.sum (bCh R)⟩, ⟨indexN, (idxB (bEn R 0)).length, Frm.sum (idxB (bEn R 0))⟩], ss⟩
structure BdOk (id : List UInt8) (a b lv : Int) (ss : List (List UInt8)) (R : List Row) : Prop where
  good : GoodP R
  rows : ∀ r ∈ R, RowOk a b r
  meta_ : Met.Ok (bMt id a b lv ss R)
theorem bEn_append : ∀ (A B : List Row) (a : Nat), bEn (A ++ B) a = bEn A a ++ bEn B (a + (bCh A).length)
  | [], B, a => by simp [bEn, bCh]
  | r :: A, B, a => by
    rw [List.cons_append, bEn, bEn, bEn_append A B, List.cons_append]
    unfold bCh
    rw [List.flatMap_cons, List.length_append, Nat.add_assoc]
theorem bEn_len : ∀ (R : List Row) (a : Nat), (bEn R a).length = R.length
  | [], _ => rfl
  | r :: R, a => by rw [bEn, List.length_cons, List.length_cons, bEn_len R]
theorem bCh_append (A B : List Row) : bCh (A ++ B) = bCh A ++ bCh B := List.flatMap_append
theorem bEn_snoc (A : List Row) (r : Row) : bEn (A ++ [r]) 0 = bEn A 0 ++ [rEn r (bCh A).length] := by
  rw [bEn_append, Nat.zero_add]; rfl
theorem bCh_snoc (A : List Row) (r : Row) : bCh (A ++ [r]) = bCh A ++ chB r.2 := by
  rw [bCh_append]; unfold bCh; simp
theorem bEn_at : ∀ {R : List Row} {i : Nat} {r : Row} (a : Nat), R[i]? = some r → (bEn R a)[i]? = some (rEn r (a + (bCh (R.take i)).length))
  | [], i, r, a, h => by simp at h
  | x :: R, 0, r, a, h => by
    injection h with h
    subst h
    simp [bEn, bCh]
  | x :: R, i + 1, r, a, h => by
    rw [bEn, List.getElem?_cons_succ, bEn_at (a + (chB x.2).length) (by simpa using h), List.take_succ_cons]
    unfold bCh
    rw [List.flatMap_cons, List.length_append, Nat.add_assoc]
theorem bEn_rls : ∀ (R : List Row) (a : Nat), Rls R → (bEn R a).Pairwise (fun x y => cmpL x.ls y.ls < 0)
  | [], _, _ => List.Pairwise.nil
  | r :: R, a, h => by
    obtain ⟨h1, h2⟩ := List.pairwise_cons.1 h
    rw [bEn]
    refine List.pairwise_cons.2 ⟨fun y hy => ?_, bEn_rls R _ h2⟩
    obtain ⟨i, hi⟩ := List.mem_iff_getElem?.1 hy
    have hlt := (List.getElem?_eq_some_iff.1 hi).1
    rw [bEn_len] at hlt
    have hr : R[i]? = some R[i] := List.getElem?_eq_getElem hlt
    rw [bEn_at _ hr] at hi
    injection hi with hi
    rw [← hi]
    exact h1 _ (List.getElem_mem hlt)
theorem bCh_take {R : List Row} {i : Nat} {r : Row} (h : R[i]? = some r) : ∃ t, bCh R = bCh (R.take i) ++ (chB r.2 ++ t) := by
  obtain ⟨hlt, rfl⟩ := List.getElem?_eq_some_iff.1 h
  refine ⟨bCh (R.drop (i + 1)), ?_⟩
  conv => lhs; rw [← List.take_append_drop i R, bCh_append, List.drop_eq_getElem_cons hlt]
  rfl
theorem first_mem {L : List Sm} (h : L ≠ []) : ∃ x ∈ L, first L = x.1 := by
  cases L with
  | nil => exact absurd rfl h
  | cons x r => exact ⟨x, List.mem_cons_self .., rfl⟩
theorem last_mem {L : List Sm} (h : L ≠ []) : ∃ x ∈ L, last L = x.1 := by
  unfold last
  cases L with
  | nil => exact absurd rfl h
  | cons x r =>
    refine ⟨(x :: r).getLastD (0, 0), ?_, rfl⟩
    rw [List.getLastD_cons]
    cases r with
    | nil => simp
    | cons y s =>
      rw [List.getLastD_eq_getLast?, List.getLast?_eq_some_getLast (by simp)]
      exact List.mem_cons_of_mem _ (List.getLast_mem _)
theorem first_le_last {L : List Sm} (h : Ris L) : first L ≤ last L := by
  cases L with
  | nil => exact Int.le_refl _
  | cons x r =>
    obtain ⟨y, hy, he⟩ := last_mem (L := x :: r) (by simp)
    rw [he]
    show x.1 ≤ y.1
    rcases List.mem_cons.1 hy with rfl | hy
    · exact Int.le_refl _
    · exact Int.le_of_lt ((List.pairwise_cons.1 h).1 y hy)
theorem ckR_ne {L : List Sm} (h : L ≠ []) : 1 ≤ (chB L).length := by
  unfold chB ckR
  have : 0 < nP L := by unfold nP; have := List.length_pos_iff.2 h; omega
  obtain ⟨m, hm⟩ : ∃ m, nP L = m + 1 := ⟨nP L - 1, by omega⟩
  rw [hm, List.range_succ_eq_map, List.map_cons, laid_cons, List.length_append, rec_len]
  omega
theorem rEn_ok {a b : Int} {r : Row} {at_ : Nat} (h : RowOk a b r) (hr : Ris r.2) (h1 : at_ ≤ 1048576) (h2 : (chB r.2).length ≤ 1048576) : EnOk (rEn r at_) := by
  obtain ⟨x, hx, e1⟩ := first_mem h.ne
  obtain ⟨y, hy, e2⟩ := last_mem h.ne
  have h3 := ckR_ne h.ne
  have h4 := first_le_last hr
  have t1 := h.tm x hx
  have t2 := h.tm y hy
  exact ⟨h.lab, ⟨by show (0 : Int) ≤ (at_ : Nat); omega, by show ((at_ : Nat) : Int) ≤ _; omega⟩, ⟨by show (1 : Int) ≤ ((chB r.2).length : Nat); omega, by show (((chB r.2).length : Nat) : Int) ≤ _; omega⟩, by show 0 ≤ first r.2; omega, h4, by show last r.2 ≤ _; omega⟩
theorem bEn_ok {a b : Int} {R : List Row} (h : ∀ r ∈ R, RowOk a b r) (hg : GoodP R) (hl : (bCh R).length ≤ 1048576) : ∀ x ∈ bEn R 0, EnOk x := by
  intro x hx
  obtain ⟨i, hi⟩ := List.mem_iff_getElem?.1 hx
  have hlt := (List.getElem?_eq_some_iff.1 hi).1
  rw [bEn_len] at hlt
  have hr : R[i]? = some R[i] := List.getElem?_eq_getElem hlt
  rw [bEn_at _ hr] at hi
  injection hi with hi
  obtain ⟨t, ht⟩ := bCh_take hr
  rw [ht, List.length_append, List.length_append] at hl
  rw [← hi]
  have hm := List.getElem_mem hlt
  exact rEn_ok (h _ hm) (hg.2 _ hm) (by omega) (by omega)

def holdsB (f : Fl) (s : List UInt8) : Bool := f.size == s.length && f.sum == Frm.sum s
def tRows (mn mx : Int) (C : List UInt8) : List En → Nat → List Row → List Row × Nat × Nat
  | [], a, out => (out, a, 0)
  | x :: l, a, out =>
    if x.fr ≠ a ∨ (C.length : Int) - a < x.n then ([], 0, 3)
    else if (smpsR ((C.drop a).take x.n.toNat)).2 ≠ 0 then ([], 0, (smpsR ((C.drop a).take x.n.toNat)).2)
    else if (smpsR ((C.drop a).take x.n.toNat)).1 = [] ∨ first (smpsR ((C.drop a).take x.n.toNat)).1 ≠ x.mn ∨ last (smpsR ((C.drop a).take x.n.toNat)).1 ≠ x.mx ∨ x.mn < mn ∨ mx ≤ x.mx then ([], 0, 3)
    else tRows mn mx C l (a + x.n.toNat) (out ++ [(x.ls, (smpsR ((C.drop a).take x.n.toNat)).1)])
def tableR (m : Mt) (C I : List UInt8) : List Row × Nat :=
  if (holdsB (m.fs.getD 0 ⟨[], 0, 0⟩) C && holdsB (m.fs.getD 1 ⟨[], 0, 0⟩) I) = false then ([], 4)
  else if (entriesR I).2 ≠ 0 then ([], (entriesR I).2)
  else if (tRows m.mn m.mx C (entriesR I).1 0 []).2.2 ≠ 0 then ([], (tRows m.mn m.mx C (entriesR I).1 0 []).2.2)
  else if ((tRows m.mn m.mx C (entriesR I).1 0 []).2.1 : Int) ≠ C.length ∨ ((tRows m.mn m.mx C (entriesR I).1 0 []).1.length : Int) ≠ m.sr ∨ (cntR (tRows m.mn m.mx C (entriesR I).1 0 []).1 : Int) ≠ m.sm then ([], 3)
  else ((tRows m.mn m.mx C (entriesR I).1 0 []).1, 0)
theorem row_sm {a b : Int} {R : List Row} {r : Row} (h : ∀ r ∈ R, RowOk a b r) (hg : GoodP R) (hv : ∀ r ∈ R, ∀ x ∈ r.2, x.2 < 18446744073709551616) (hr : r ∈ R) : SmOk r.2 := ⟨hg.2 r hr, (h r hr).tm, hv r hr⟩
theorem tRows_of {a b : Int} {R : List Row} (h : ∀ r ∈ R, RowOk a b r) (hg : GoodP R) (hv : ∀ r ∈ R, ∀ x ∈ r.2, x.2 < 18446744073709551616) : ∀ (B A : List Row), A ++ B = R → tRows a b (bCh R) (bEn B (bCh A).length) (bCh A).length A = (R, (bCh R).length, 0)
  | [], A, e => by
    rw [List.append_nil] at e
    rw [e]; rfl
  | r :: B, A, e => by
    have hm : r ∈ R := by rw [← e]; exact List.mem_append_right _ (List.mem_cons_self ..)
    have hs := smpsR_of (row_sm h hg hv hm)
    have hC : bCh R = bCh A ++ (chB r.2 ++ bCh B) := by rw [← e, bCh_append]; rfl
    have hd : ((bCh R).drop (bCh A).length).take (rEn r (bCh A).length).n.toNat = chB r.2 := by
      rw [hC, List.drop_left]
      show (chB r.2 ++ bCh B).take (((chB r.2).length : Nat) : Int).toNat = _
      rw [Int.toNat_natCast, List.take_left]
    rw [bEn, tRows, hd, hs]
    simp only
    rw [if_neg (by
      rintro (h1 | h1)
      · exact h1 rfl
      · rw [hC, List.length_append, List.length_append] at h1
        have h1 : ((((bCh A).length + ((chB r.2).length + (bCh B).length) : Nat) : Int)) - ((bCh A).length : Nat) < (((chB r.2).length : Nat) : Int) := h1
        omega), if_neg (by omega), if_neg (by
      have hro := h r hm
      rintro (h1 | h1 | h1 | h1 | h1)
      · exact hro.ne h1
      · exact h1 rfl
      · exact h1 rfl
      · have h2 := hro.fr
        have h1 : first r.2 < a := h1
        omega
      · have h2 := hro.to
        have h1 : b ≤ last r.2 := h1
        omega)]
    have e2 : (bCh A).length + (rEn r (bCh A).length).n.toNat = (bCh (A ++ [r])).length := by
      rw [bCh_snoc, List.length_append]
      show _ + ((((chB r.2).length : Nat) : Int)).toNat = _
      rw [Int.toNat_natCast]
    have e3 : (bCh A).length + (chB r.2).length = (bCh (A ++ [r])).length := by rw [bCh_snoc, List.length_append]
    rw [e2, e3]
    exact tRows_of h hg hv B (A ++ [r]) (by rw [List.append_assoc]; exact e)
theorem tableR_of {id : List UInt8} {a b lv : Int} {ss : List (List UInt8)} {R : List Row} (h : BdOk id a b lv ss R) (hv : ∀ r ∈ R, ∀ x ∈ r.2, x.2 < 18446744073709551616) (hn : R.length ≤ 10000) (hd : (idxD (bEn R 0)).length ≤ 1048576) (hl : (bCh R).length ≤ 1048576) :
    tableR (bMt id a b lv ss R) (bCh R) (idxB (bEn R 0)) = (R, 0) := by
  have he := entriesR_of (bEn_ok h.rows h.good hl) (bEn_rls R 0 h.good.1) (by rw [bEn_len]; exact hn) hd
  have ht := tRows_of h.rows h.good hv R [] rfl
  have ht : tRows a b (bCh R) (bEn R 0) 0 [] = (R, (bCh R).length, 0) := ht
  unfold tableR
  rw [if_neg (by simp [bMt, holdsB]), he]
  simp only
  rw [if_neg (by omega)]
  show (if (tRows a b (bCh R) (bEn R 0) 0 []).2.2 ≠ 0 then _ else _) = _
  simp [bMt, ht]
theorem enB_len {x : En} (h : EnOk x) : (enB x).length ≤ 800 := by
  obtain ⟨h1, _, _, _, _, _⟩ := h
  have u1 := u_len (w64 x.fr) (w64_lt _)
  have u2 := u_len (w64 x.n) (w64_lt _)
  have u3 := u_len (w64 x.mn) (w64_lt _)
  have u4 := u_len (w64 x.mx) (w64_lt _)
  have u5 := u_len x.ls.length (by have := h1.2.1; omega)
  have hh : ∀ l : List Pr, (∀ p ∈ l, p.1.length ≤ 40 ∧ p.2.length ≤ 40) → (l.flatMap fun p => tx p.1 ++ tx p.2).length ≤ 90 * l.length := by
    intro l hl
    induction l with
    | nil => exact Nat.le_refl _
    | cons p r ih =>
      have ih := ih (fun q hq => hl q (List.mem_cons_of_mem _ hq))
      have hp := hl p (List.mem_cons_self ..)
      have v1 := u_len_le 0 p.1.length (by omega)
      have v2 := u_len_le 0 p.2.length (by omega)
      have e : (tx p.1 ++ tx p.2).length ≤ 90 := by
        unfold tx
        rw [List.length_append, List.length_append, List.length_append]
        omega
      rw [List.flatMap_cons, List.length_append, List.length_cons]
      omega
  have hk := hh x.ls (fun p hp => ⟨(okP_len (h1.2.2.1 p hp)).1, (okP_len (h1.2.2.1 p hp)).2.1⟩)
  have h8 := h1.2.1
  unfold enB enT key
  rw [List.length_append, List.length_append, List.length_append, List.length_append, List.length_append]
  omega
end Go.Bar.Bok
