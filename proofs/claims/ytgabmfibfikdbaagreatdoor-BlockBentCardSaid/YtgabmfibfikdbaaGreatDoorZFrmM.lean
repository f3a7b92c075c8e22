/-
  Plain mathematics of layer 2 (sums, records): no program in sight; no condition.
-/
import Derived.Test.YtgabmfibfikdbaaGreatDoorZLebM
import Derived.Test.YtgabmfibfikdbaaGreatDoorZXorN

namespace Go.Bar.Frm
open Go.RowKit Go.Bar Go.Bar.Leb

/-- a step of the sum at one bit -/
def bstep (c b : Nat) : Nat := if (c + b) % 2 = 1 then (c / 2) ^^^ 2197175160 else c / 2
/-- n steps, at the lowest n bits of b -/
def bsteps : Nat → Nat → Nat → Nat
  | 0, c, _ => c
  | n + 1, c, b => bstep (bsteps n c b) (b / 2 ^ n)
def crc : Nat → List UInt8 → Nat
  | c, [] => c
  | c, x :: l => crc (bsteps 8 c x.toNat) l
def no (c : Nat) : Nat := 4294967295 - c
def more (s : Nat) (l : List UInt8) : Nat := no (crc (no s) l)
def sum (l : List UInt8) : Nat := more 0 l

theorem bstep_lt {c b : Nat} (h : c < 4294967296) : bstep c b < 4294967296 := by
  unfold bstep
  split
  · exact Nat.xor_lt_two_pow (n := 32) (by omega) (by omega)
  · omega
theorem bsteps_lt : ∀ (n : Nat) {c b : Nat}, c < 4294967296 → bsteps n c b < 4294967296
  | 0, _, _, h => h
  | n + 1, _, _, h => bstep_lt (bsteps_lt n h)
theorem crc_lt : ∀ (l : List UInt8) {c : Nat}, c < 4294967296 → crc c l < 4294967296
  | [], _, h => h
  | _ :: l, _, h => crc_lt l (bsteps_lt 8 h)
theorem no_lt (c : Nat) : no c < 4294967296 := by unfold no; omega
theorem no_no {c : Nat} (h : c < 4294967296) : no (no c) = c := by unfold no; omega
theorem sum_lt (l : List UInt8) : sum l < 4294967296 := no_lt _
theorem crc_append : ∀ (l m : List UInt8) (c : Nat), crc c (l ++ m) = crc (crc c l) m
  | [], _, _ => rfl
  | _ :: l, m, _ => crc_append l m _
theorem more_more (s : Nat) (l m : List UInt8) : more (more s l) m = more s (l ++ m) := by
  unfold more
  rw [no_no (crc_lt l (no_lt _)), crc_append]
theorem more_sum (l m : List UInt8) : more (sum l) m = sum (l ++ m) := more_more 0 l m
theorem crc_snoc (l : List UInt8) (x : UInt8) (c : Nat) : crc c (l ++ [x]) = bsteps 8 (crc c l) x.toNat := crc_append l [x] c

/-- the step without the byte -/
def fs (x : Nat) : Nat := if x % 2 = 1 then (x / 2) ^^^ 2197175160 else x / 2
def fss : Nat → Nat → Nat
  | 0, x => x
  | n + 1, x => fs (fss n x)
theorem bstep_xor (c b : Nat) : bstep c b ^^^ (b / 2) = fs (c ^^^ b) := by
  have h : (c ^^^ b) % 2 = 1 ↔ (c + b) % 2 = 1 := by
    rw [Nat.xor_mod_two_eq_one]; omega
  unfold bstep fs
  rw [Nat.xor_div_two]
  by_cases h1 : (c + b) % 2 = 1
  · rw [if_pos h1, if_pos (h.2 h1), Nat.xor_assoc, Nat.xor_assoc, Nat.xor_comm 2197175160]
  · rw [if_neg h1, if_neg (fun h2 => h1 (h.1 h2))]
theorem bsteps_xor : ∀ (n c b : Nat), bsteps n c b ^^^ (b / 2 ^ n) = fss n (c ^^^ b)
  | 0, c, b => by simp [bsteps, fss]
  | n + 1, c, b => by
    rw [fss, ← bsteps_xor n c b, ← bstep_xor, bsteps, Nat.pow_succ, Nat.div_div_eq_div_mul]
theorem xor_cancel {a b p : Nat} (h : a ^^^ p = b ^^^ p) : a = b := by
  have := congrArg (· ^^^ p) h
  simpa [Nat.xor_assoc] using this
theorem xor_cancel' {a b p : Nat} (h : p ^^^ a = p ^^^ b) : a = b := by
  rw [Nat.xor_comm p, Nat.xor_comm p] at h
  exact xor_cancel h
theorem high {x : Nat} (h : x < 2147483648) : 2147483648 ≤ x ^^^ 2197175160 := by
  have h1 : (x ^^^ 2197175160).testBit 31 = true := by
    rw [Nat.testBit_xor, Nat.testBit_lt_two_pow (i := 31) (by omega)]
    decide
  exact Nat.ge_two_pow_of_testBit h1
theorem fs_inj {x y : Nat} (hx : x < 4294967296) (hy : y < 4294967296) (h : fs x = fs y) : x = y := by
  unfold fs at h
  have h1 := high (x := x / 2) (by omega)
  have h2 := high (x := y / 2) (by omega)
  by_cases a : x % 2 = 1 <;> by_cases b : y % 2 = 1
  · rw [if_pos a, if_pos b] at h
    have := xor_cancel h
    omega
  · rw [if_pos a, if_neg b] at h
    omega
  · rw [if_neg a, if_pos b] at h
    omega
  · rw [if_neg a, if_neg b] at h
    omega
theorem fs_lt {x : Nat} (h : x < 4294967296) : fs x < 4294967296 := by
  unfold fs
  split
  · exact Nat.xor_lt_two_pow (n := 32) (by omega) (by omega)
  · omega
theorem fss_lt : ∀ (n : Nat) {x : Nat}, x < 4294967296 → fss n x < 4294967296
  | 0, _, h => h
  | n + 1, _, h => fs_lt (fss_lt n h)
theorem fss_inj : ∀ (n : Nat) {x y : Nat}, x < 4294967296 → y < 4294967296 → fss n x = fss n y → x = y
  | 0, _, _, _, _, h => h
  | n + 1, _, _, hx, hy, h => fss_inj n hx hy (fs_inj (fss_lt n hx) (fss_lt n hy) h)
theorem byte_inj {c c' b b' : Nat} (hc : c < 4294967296) (hc' : c' < 4294967296) (hb : b < 256) (hb' : b' < 256) (h : bsteps 8 c b = bsteps 8 c' b') : c ^^^ b = c' ^^^ b' := by
  have h1 := bsteps_xor 8 c b
  have h2 := bsteps_xor 8 c' b'
  rw [show b / 2 ^ 8 = 0 by omega, Nat.xor_zero] at h1
  rw [show b' / 2 ^ 8 = 0 by omega, Nat.xor_zero] at h2
  exact fss_inj 8 (Nat.xor_lt_two_pow (n := 32) hc (by omega)) (Nat.xor_lt_two_pow (n := 32) hc' (by omega)) (by rw [← h1, ← h2, h])
theorem crc_inj : ∀ (l : List UInt8) {c c' : Nat}, c < 4294967296 → c' < 4294967296 → crc c l = crc c' l → c = c'
  | [], _, _, _, _, h => h
  | x :: l, c, c', hc, hc', h => by
    have := crc_inj l (bsteps_lt 8 hc) (bsteps_lt 8 hc') h
    exact xor_cancel (byte_inj hc hc' (UInt8.toNat_lt x) (UInt8.toNat_lt x) this)
theorem no_inj {a b : Nat} (ha : a < 4294967296) (hb : b < 4294967296) (h : no a = no b) : a = b := by
  unfold no at h; omega
/-- texts unlike in one byte have unlike sums -/
theorem sum_byte (p s : List UInt8) (x y : UInt8) (h : x ≠ y) : sum (p ++ x :: s) ≠ sum (p ++ y :: s) := by
  intro he
  unfold sum more at he
  have h1 := no_inj (crc_lt _ (no_lt _)) (crc_lt _ (no_lt _)) he
  rw [crc_append, crc_append] at h1
  have hp := crc_lt p (no_lt 0)
  have h2 := crc_inj s (bsteps_lt 8 hp) (bsteps_lt 8 hp) h1
  have h3 := xor_cancel' (byte_inj hp hp (UInt8.toNat_lt x) (UInt8.toNat_lt y) h2)
  exact h (UInt8.toNat_inj.1 h3)

/-- a record: its kind, its bytes -/
abbrev Rc := UInt8 × List UInt8
def sum4 (n : Nat) : List UInt8 := [UInt8.ofNat n, UInt8.ofNat (n / 256), UInt8.ofNat (n / 65536), UInt8.ofNat (n / 16777216)]
def num4 (l : List UInt8) : Nat := (l.getD 0 0).toNat + (l.getD 1 0).toNat * 256 + (l.getD 2 0).toNat * 65536 + (l.getD 3 0).toNat * 16777216
def rsum (r : Rc) : Nat := sum (r.1 :: r.2)
/-- a record's bytes -/
def rec (r : Rc) : List UInt8 := r.1 :: u r.2.length ++ sum4 (rsum r) ++ r.2
theorem num4_sum4 (n : Nat) (h : n < 4294967296) (l : List UInt8) : num4 (sum4 n ++ l) = n := by
  simp [num4, sum4]
  omega
theorem sum4_num4 (l : List UInt8) (h : 4 ≤ l.length) : sum4 (num4 l) = l.take 4 := by
  match l, h with
  | a :: b :: c :: d :: l, _ =>
    have ha := UInt8.toNat_lt a
    have hb := UInt8.toNat_lt b
    have hc := UInt8.toNat_lt c
    have hd := UInt8.toNat_lt d
    simp only [num4, sum4, List.getD_cons_zero, List.getD_cons_succ, List.take_succ_cons, List.take_zero, List.cons.injEq, and_true]
    refine ⟨?_, ?_, ?_, ?_⟩ <;> apply UInt8.toNat_inj.1 <;> simp <;> omega
theorem sum4_len (n : Nat) : (sum4 n).length = 4 := rfl
theorem rec_len (r : Rc) : (rec r).length = 5 + (u r.2.length).length + r.2.length := by
  simp [rec, sum4_len]; omega

def z : Rc := (0, [])
/-- the record at the beginning of bytes, what is left, the error -/
def next : List UInt8 → Rc × List UInt8 × Nat
  | [] => (z, [], 2)
  | k :: l =>
    if (takeMost l 1048576).2.2 ≠ 0 then (z, [], (takeMost l 1048576).2.2)
    else if (takeMost l 1048576).2.1.length < 4 + (takeMost l 1048576).1 then (z, [], 2)
    else if rsum (k, ((takeMost l 1048576).2.1.drop 4).take (takeMost l 1048576).1) ≠ num4 (takeMost l 1048576).2.1 then (z, [], 4)
    else ((k, ((takeMost l 1048576).2.1.drop 4).take (takeMost l 1048576).1), (takeMost l 1048576).2.1.drop (4 + (takeMost l 1048576).1), 0)

theorem takeMost_one (l : List UInt8) (m : Int) (h : (takeMost l m).2.2 = 0) : u (takeMost l m).1 ++ (takeMost l m).2.1 = l := by
  unfold takeMost at h ⊢
  split
  · rename_i hc; rw [if_pos hc] at h; cases h
  · rename_i hc; rw [if_neg hc] at h; exact takeU_one l h
theorem takeMost_le (l : List UInt8) (m : Nat) (h : (takeMost l m).2.2 = 0) : (takeMost l m).1 ≤ m := by
  unfold takeMost at h ⊢
  split
  · omega
  · rename_i hc; rw [if_neg hc] at h; omega

/-- what a record that is read says of the bytes -/
theorem next_one (l : List UInt8) (h : (next l).2.2 = 0) : rec (next l).1 ++ (next l).2.1 = l ∧ (next l).1.2.length ≤ 1048576 := by
  match l with
  | [] => simp [next] at h
  | k :: l =>
    rw [next] at h ⊢
    by_cases h1 : (takeMost l 1048576).2.2 ≠ 0
    · rw [if_pos h1] at h; exact absurd h h1
    · rw [if_neg h1] at h ⊢
      have h1 : (takeMost l 1048576).2.2 = 0 := by omega
      have ho := takeMost_one l 1048576 h1
      have hl := takeMost_le l 1048576 h1
      by_cases h2 : (takeMost l 1048576).2.1.length < 4 + (takeMost l 1048576).1
      · rw [if_pos h2] at h; cases h
      · rw [if_neg h2] at h ⊢
        by_cases h3 : rsum (k, ((takeMost l 1048576).2.1.drop 4).take (takeMost l 1048576).1) ≠ num4 (takeMost l 1048576).2.1
        · rw [if_pos h3] at h; cases h
        · rw [if_neg h3]
          have h3 : rsum (k, ((takeMost l 1048576).2.1.drop 4).take (takeMost l 1048576).1) = num4 (takeMost l 1048576).2.1 := by
            rcases Nat.decEq (rsum (k, ((takeMost l 1048576).2.1.drop 4).take (takeMost l 1048576).1)) (num4 (takeMost l 1048576).2.1) with h | h
            · exact absurd h h3
            · exact h
          generalize (takeMost l 1048576).1 = n at *
          generalize (takeMost l 1048576).2.1 = r at *
          have hd : ((r.drop 4).take n).length = n := by rw [List.length_take, List.length_drop]; omega
          refine ⟨?_, by rw [hd]; exact hl⟩
          simp only [rec, hd, h3]
          rw [sum4_num4 r (by omega), List.append_assoc, List.append_assoc, show r.drop (4 + n) = (r.drop 4).drop n by rw [List.drop_drop], List.take_append_drop, List.cons_append, List.take_append_drop, ho]
theorem next_left (l : List UInt8) (h : (next l).2.2 = 0) : (next l).2.1.length + 6 ≤ l.length := by
  obtain ⟨h1, _⟩ := next_one l h
  have := congrArg List.length h1
  rw [List.length_append, rec_len] at this
  have := u_pos (next l).1.2.length
  omega
theorem next_rec (r : Rc) (t : List UInt8) (h : r.2.length ≤ 1048576) : next (rec r ++ t) = (r, t, 0) := by
  obtain ⟨k, d⟩ := r
  simp only at h
  have e : rec (k, d) ++ t = k :: (u d.length ++ (sum4 (rsum (k, d)) ++ (d ++ t))) := by simp [rec]
  have ht := takeMost_u d.length (sum4 (rsum (k, d)) ++ (d ++ t)) 1048576 (by omega) (by omega)
  rw [e, next, ht]
  have hl : (sum4 (rsum (k, d)) ++ (d ++ t)).length = 4 + d.length + t.length := by simp [sum4_len]; omega
  have hd4 : (sum4 (rsum (k, d)) ++ (d ++ t)).drop 4 = d ++ t := by rw [List.drop_append_of_le_length (by simp [sum4_len]), List.drop_of_length_le (by simp [sum4_len]), List.nil_append]
  rw [if_neg (by simp), if_neg (by simp only; omega)]
  simp only [hd4, List.take_left']
  rw [if_neg (by simp [num4_sum4 _ (show rsum (k, d) < 4294967296 from sum_lt _)])]
  rw [show (4 + d.length) = 4 + d.length from rfl, ← List.drop_drop, hd4, List.drop_left]

/-- the records at the beginning of bytes, what is left -/
def all : Nat → List UInt8 → List Rc × List UInt8
  | 0, l => ([], l)
  | f + 1, l => if (next l).2.2 = 0 then ((next l).1 :: (all f (next l).2.1).1, (all f (next l).2.1).2) else ([], l)
theorem all_stop {f : Nat} {l : List UInt8} (h : (next l).2.2 ≠ 0) : all f l = ([], l) := by
  cases f with
  | zero => rfl
  | succ f => rw [all, if_neg h]
theorem all_go {f : Nat} {l : List UInt8} (h : (next l).2.2 = 0) : all (f + 1) l = ((next l).1 :: (all f (next l).2.1).1, (all f (next l).2.1).2) := by rw [all, if_pos h]
theorem all_fuel : ∀ (f g : Nat) (l : List UInt8), l.length ≤ f → l.length ≤ g → all f l = all g l
  | 0, g, l, hf, _ => by
    obtain rfl := List.eq_nil_of_length_eq_zero (by omega : l.length = 0)
    rw [all_stop (by simp [next]), all_stop (by simp [next])]
  | f + 1, 0, l, _, hg => by
    obtain rfl := List.eq_nil_of_length_eq_zero (by omega : l.length = 0)
    rw [all_stop (by simp [next]), all_stop (by simp [next])]
  | f + 1, g + 1, l, hf, hg => by
    by_cases h : (next l).2.2 = 0
    · have := next_left l h
      rw [all_go h, all_go h, all_fuel f g _ (by omega) (by omega)]
    · rw [all_stop h, all_stop h]
def recs (l : List UInt8) : List Rc := (all l.length l).1
def left (l : List UInt8) : List UInt8 := (all l.length l).2
theorem recs_stop {l : List UInt8} (h : (next l).2.2 ≠ 0) : recs l = [] ∧ left l = l := by
  unfold recs left
  rw [all_stop h]
  exact ⟨rfl, rfl⟩
theorem recs_go {l : List UInt8} (h : (next l).2.2 = 0) : recs l = (next l).1 :: recs (next l).2.1 ∧ left l = left (next l).2.1 := by
  unfold recs left
  have := next_left l h
  obtain ⟨n, hn⟩ : ∃ n, l.length = n + 1 := ⟨l.length - 1, by omega⟩
  rw [hn, all_go h, all_fuel n _ _ (by omega) (Nat.le_refl _)]
  exact ⟨rfl, rfl⟩
theorem left_le (l : List UInt8) : (left l).length ≤ l.length := by
  suffices h : ∀ n (l : List UInt8), l.length ≤ n → (left l).length ≤ l.length from h _ l (Nat.le_refl _)
  intro n
  induction n with
  | zero =>
    intro l hl
    obtain rfl := List.eq_nil_of_length_eq_zero (by omega : l.length = 0)
    exact Nat.le_refl _
  | succ n ih =>
    intro l hl
    by_cases h : (next l).2.2 = 0
    · have h1 := next_left l h
      have := ih (next l).2.1 (by omega)
      rw [(recs_go h).2]
      omega
    · rw [(recs_stop h).2]
      exact Nat.le_refl _
/-- records, one behind the other -/
def laid (rs : List Rc) : List UInt8 := rs.flatMap rec
theorem laid_cons (r : Rc) (rs : List Rc) : laid (r :: rs) = rec r ++ laid rs := by simp [laid]
theorem laid_snoc (rs : List Rc) (r : Rc) : laid (rs ++ [r]) = laid rs ++ rec r := by simp [laid]
theorem recs_laid : ∀ (rs : List Rc) (t : List UInt8), (∀ r ∈ rs, r.2.length ≤ 1048576) → (next t).2.2 ≠ 0 → recs (laid rs ++ t) = rs ∧ left (laid rs ++ t) = t
  | [], t, _, ht => by simpa [laid] using recs_stop ht
  | r :: rs, t, h, ht => by
    have h1 := next_rec r (laid rs ++ t) (h r (by simp))
    rw [laid_cons, List.append_assoc]
    obtain ⟨h2, h3⟩ := recs_go (l := rec r ++ (laid rs ++ t)) (by rw [h1])
    obtain ⟨h4, h5⟩ := recs_laid rs t (fun r hr => h r (by simp [hr])) ht
    rw [h1] at h2 h3
    exact ⟨by rw [h2, h4], by rw [h3, h5]⟩
/-- how many records end at or ahead of a place, where the last one of these ends -/
def whole (rs : List Rc) (cut : Nat) : Nat × Nat :=
  match rs with
  | [] => (0, 0)
  | r :: rs => if (rec r).length ≤ cut then ((whole rs (cut - (rec r).length)).1 + 1, (whole rs (cut - (rec r).length)).2 + (rec r).length) else (0, 0)
theorem next_nil : (next []).2.2 ≠ 0 := by simp [next]

end Go.Bar.Frm

/-
  Plain mathematics of layer 9 (metas and marks): no program in sight; no condition.
-/
namespace Go.Bar.Met
open Go.RowKit Go.Bar Go.Bar.Leb Go.Bar.Frm Go.Bar.Idt

/-- a text behind its length -/
def txt (l : List UInt8) : List UInt8 := u l.length ++ l
/-- a number as uint64 -/
def w64 (z : Int) : Nat := (z % 18446744073709551616).toNat
theorem w64_lt (z : Int) : w64 z < 18446744073709551616 := by unfold w64; omega
theorem w64_of (z : Int) (h : 0 ≤ z) (h2 : z < 18446744073709551616) : (w64 z : Int) = z := by unfold w64; omega
/-- a file: its name, size, sum -/
structure Fl where
  name : List UInt8
  size : Int
  sum : Nat
/-- a meta -/
structure Mt where
  id : List UInt8
  mn : Int
  mx : Int
  lv : Int
  sr : Int
  sm : Int
  fs : List Fl
  ss : List (List UInt8)
def flB (f : Fl) : List UInt8 := txt f.name ++ (u (w64 f.size) ++ u f.sum)
def fields (m : Mt) : List UInt8 := txt m.id ++ (u (w64 m.mn) ++ (u (w64 m.mx) ++ (u (w64 m.lv) ++ (u (w64 m.sr) ++ (u (w64 m.sm) ++ (m.fs.flatMap flB ++ (u m.ss.length ++ m.ss.flatMap txt)))))))

/-- a text that is one record of a kind -/
def only (s : List UInt8) (k : UInt8) : List UInt8 × Nat := ((next s).1.2, if (next s).2.2 = 0 ∧ ((next s).2.1 ≠ [] ∨ (next s).1.1 ≠ k) then 3 else (next s).2.2)
def idOk (l : List UInt8) : Bool := (parse l).isSome

/-- the source before the i-th -/
def prev (ss : List (List UInt8)) (i : Nat) : List UInt8 := if i = 0 then [] else ss.getD (i - 1) []
/-- a source that may stand at a place -/
def good (m : Mt) (i : Nat) : Prop := idOk (m.ss.getD i []) = true ∧ m.ss.getD i [] ≠ m.id ∧ Op.bytesLess (prev m.ss i) (m.ss.getD i []) = true
def chunksN : List UInt8 := [99, 104, 117, 110, 107, 115]
def indexN : List UInt8 := [105, 110, 100, 101, 120]
def fileOk (m : Mt) (i : Nat) : Prop := (m.fs.getD i ⟨[], 0, 0⟩).name = (if i = 0 then chunksN else indexN) ∧ 0 ≤ (m.fs.getD i ⟨[], 0, 0⟩).size ∧ (m.fs.getD i ⟨[], 0, 0⟩).size ≤ 1048576
def sane (m : Mt) : Prop := idOk m.id = true ∧ 0 ≤ m.mn ∧ m.mn < m.mx ∧ m.mx ≤ 1099511627776 ∧ 1 ≤ m.lv ∧ m.lv ≤ 9 ∧ 0 ≤ m.sr ∧ m.sr ≤ m.sm ∧ m.sm ≤ 1073741824
/-- may a meta be said? -/
def Ok (m : Mt) : Prop := sane m ∧ m.fs.length = 2 ∧ m.ss.length ≤ 50 ∧ (∀ i, i < 2 → fileOk m i) ∧ ∀ i, i < m.ss.length → good m i
open Classical in
noncomputable def chk (m : Mt) : Int := if Ok m then 0 else 3
theorem chk_ok {m : Mt} (h : Ok m) : chk m = 0 := by unfold chk; rw [if_pos h]
theorem chk_no {m : Mt} (h : ¬ Ok m) : chk m = 3 := by unfold chk; rw [if_neg h]

theorem idOk_len {l : List UInt8} (h : idOk l = true) : l.length = 16 := (parse_slash l h).2
theorem idOk_mk (t s : Nat) (ht : t < 32 ^ 8) (hs : s < 32 ^ 8) : idOk (mk t s) = true := by unfold idOk; rw [parse_mk t s ht hs]; rfl

theorem Ok.src {m : Mt} (h : Ok m) : ∀ s ∈ m.ss, s.length ≤ 16 := by
  intro s hs
  obtain ⟨i, hi⟩ := List.mem_iff_getElem?.1 hs
  have hl := (List.getElem?_eq_some_iff.1 hi).1
  have := (h.2.2.2.2 i hl).1
  rw [List.getD_eq_getElem?_getD, hi] at this
  exact Nat.le_of_eq (idOk_len this)

theorem only_rec (k : UInt8) (d : List UInt8) (h : d.length ≤ 1048576) : only (rec (k, d)) k = (d, 0) := by
  have := next_rec (k, d) [] h
  rw [List.append_nil] at this
  unfold only
  rw [this]
  simp

/-- a meta that is made -/
def made (m : Mt) (tick seq : Int) : Mt :=
  ⟨mk (1 + (tick % 1024).toNat) (seq % 1024).toNat, m.mn % 1048576, m.mn % 1048576 + 1 + m.mx % 65536, 1 + m.lv % 8, m.sr % 1024, m.sr % 1024 + m.sm % 1024,
    [⟨chunksN, 1, sum [99]⟩, ⟨indexN, (m.id.take 20).length, sum (m.id.take 20)⟩], (List.range (min m.ss.length 9)).map fun i => mk 0 i⟩

end Go.Bar.Met
