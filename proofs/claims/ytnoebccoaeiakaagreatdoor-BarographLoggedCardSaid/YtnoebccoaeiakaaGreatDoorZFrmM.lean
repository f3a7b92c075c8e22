/-
  Plain mathematics of layer 2 (sums, records): no program in sight; no condition.
-/
import Derived.Test.YtnoebccoaeiakaaGreatDoorZMrgS
import Derived.Test.YtnoebccoaeiakaaGreatDoorZLib34

namespace Go.Bar.Frm
open Go.RowKit Go.Bar Go.Bar.Leb

def bstep (c b : Nat) : Nat := if (c + b) % 2 = 1 then (c / 2) ^^^ 2197175160 else c / 2
def bsteps : Nat → Nat → Nat → Nat
  | 0, c, _ => c
  | n + 1, c, b => bstep (bsteps n c b) (b / 2 ^ n)
def crc : Nat → List UInt8 → Nat
  | c, [] => c
  | c, x :: l => crc (bsteps 8 c x.toNat) l
def no (c : Nat) : Nat := 4294967295 - c
def more (s : Nat) (l : List UInt8) : Nat := no (crc (no s) l)
def sum (l : List UInt8) : Nat := more 0 l

theorem bstep_lt {c b : Nat} (h : c < 4294967296) : bstep c b < 4294967296 := by
  unfold bstep
  split
  · exact Nat.xor_lt_two_pow (n := 32) (by omega) (by omega)
  · omega
theorem bsteps_lt : ∀ (n : Nat) {c b : Nat}, c < 4294967296 → bsteps n c b < 4294967296
  | 0, _, _, h => h
  | n + 1, _, _, h => bstep_lt (bsteps_lt n h)
theorem crc_lt : ∀ (l : List UInt8) {c : Nat}, c < 4294967296 → crc c l < 4294967296
  | [], _, h => h
  | _ :: l, _, h => crc_lt l (bsteps_lt 8 h)
theorem no_lt (c : Nat) : no c < 4294967296 := by unfold no; omega
theorem no_no {c : Nat} (h : c < 4294967296) : no (no c) = c := by unfold no; omega
theorem sum_lt (l : List UInt8) : sum l < 4294967296 := no_lt _
theorem crc_append : ∀ (l m : List UInt8) (c : Nat), crc c (l ++ m) = crc (crc c l) m
  | [], _, _ => rfl
  | _ :: l, m, _ => crc_append l m _
theorem more_more (s : Nat) (l m : List UInt8) : more (more s l) m = more s (l ++ m) := by
  unfold more
  rw [no_no (crc_lt l (no_lt _)), crc_append]
theorem more_sum (l m : List UInt8) : more (sum l) m = sum (l ++ m) := more_more 0 l m
theorem crc_snoc (l : List UInt8) (x : UInt8) (c : Nat) : crc c (l ++ [x]) = bsteps 8 (crc c l) x.toNat := crc_append l [x] c

def fs (x : Nat) : Nat := if x % 2 = 1 then (x / 2) ^^^ 2197175160 else x / 2

abbrev Rc := UInt8 × List UInt8
def sum4 (n : Nat) : List UInt8 := [UInt8.ofNat n, UInt8.ofNat (n / 256), UInt8.ofNat (n / 65536), UInt8.ofNat (n / 16777216)]
def num4 (l : List UInt8) : Nat := (l.getD 0 0).toNat + (l.getD 1 0).toNat * 256 + (l.getD 2 0).toNat * 65536 + (l.getD 3 0).toNat * 16777216
def rsum (r : Rc) : Nat := sum (r.1 :: r.2)
def rec (r : Rc) : List UInt8 := r.1 :: u r.2.length ++ sum4 (rsum r) ++ r.2
theorem num4_sum4 (n : Nat) (h : n < 4294967296) (l : List UInt8) : num4 (sum4 n ++ l) = n := by
  simp [num4, sum4]
  omega
theorem sum4_num4 (l : List UInt8) (h : 4 ≤ l.length) : sum4 (num4 l) = l.take 4 := by
  match l, h with
  | a :: b :: c :: d :: l, _ =>
    have ha := UInt8.toNat_lt a
    have hb := UInt8.toNat_lt b
    have hc := UInt8.toNat_lt c
    have hd := UInt8.toNat_lt d
    simp only [num4, sum4, List.getD_cons_zero, List.getD_cons_succ, List.take_succ_cons, List.take_zero, List.cons.injEq, and_true]
    refine ⟨?_, ?_, ?_, ?_⟩ <;> apply UInt8.toNat_inj.1 <;> simp <;> omega
theorem sum4_len (n : Nat) : (sum4 n).length = 4 := rfl
theorem rec_len (r : Rc) : (rec r).length = 5 + (u r.2.length).length + r.2.length := by
  simp [rec, sum4_len]; omega

def z : Rc := (0, [])
def next : List UInt8 → Rc × List UInt8 × Nat
  | [] => (z, [], 2)
  | k :: l =>
    if (takeMost l 1048576).2.2 ≠ 0 then (z, [], (takeMost l 1048576).2.2)
    else if (takeMost l 1048576).2.1.length < 4 + (takeMost l 1048576).1 then (z, [], 2)
    else if rsum (k, ((takeMost l 1048576).2.1.drop 4).take (takeMost l 1048576).1) ≠ num4 (takeMost l 1048576).2.1 then (z, [], 4)
    else ((k, ((takeMost l 1048576).2.1.drop 4).take (takeMost l 1048576).1), (takeMost l 1048576).2.1.drop (4 + (takeMost l 1048576).1), 0)

theorem takeMost_one (l : List UInt8) (m : Int) (h : (takeMost l m).2.2 = 0) : u (takeMost l m).1 ++ (takeMost l m).2.1 = l := by
  unfold takeMost at h ⊢
  split
  · rename_i hc; rw [if_pos hc] at h; cases h
  · rename_i hc; rw [if_neg hc] at h; exact takeU_one l h
theorem takeMost_le (l : List UInt8) (m : Nat) (h : (takeMost l m).2.2 = 0) : (takeMost l m).1 ≤ m := by
  unfold takeMost at h ⊢
  split
  · omega
  · rename_i hc; rw [if_neg hc] at h; omega

theorem next_one (l : List UInt8) (h : (next l).2.2 = 0) : rec (next l).1 ++ (next l).2.1 = l ∧ (next l).1.2.length ≤ 1048576 := by
  match l with
  | [] => simp [next] at h
  | k :: l =>
    rw [next] at h ⊢
    by_cases h1 : (takeMost l 1048576).2.2 ≠ 0
    · rw [if_pos h1] at h; exact absurd h h1
    · rw [if_neg h1] at h ⊢
      have h1 : (takeMost l 1048576).2.2 = 0 := by omega
      have ho := takeMost_one l 1048576 h1
      have hl := takeMost_le l 1048576 h1
      by_cases h2 : (takeMost l 1048576).2.1.length < 4 + (takeMost l 1048576).1
      · rw [if_pos h2] at h; cases h
      · rw [if_neg h2] at h ⊢
        by_cases h3 : rsum (k, ((takeMost l 1048576).2.1.drop 4).take (takeMost l 1048576).1) ≠ num4 (takeMost l 1048576).2.1
        · rw [if_pos h3] at h; cases h
        · rw [if_neg h3]
          have h3 : rsum (k, ((takeMost l 1048576).2.1.drop 4).take (takeMost l 1048576).1) = num4 (takeMost l 1048576).2.1 := by
            rcases Nat.decEq (rsum (k, ((takeMost l 1048576).2.1.drop 4).take (takeMost l 1048576).1)) (num4 (takeMost l 1048576).2.1) with h | h
            · exact absurd h h3
            · exact h
          generalize (takeMost l 1048576).1 = n at *
          generalize (takeMost l 1048576).2.1 = r at *
          have hd : ((r.drop 4).take n).length = n := by rw [List.length_take, List.length_drop]; omega
          refine ⟨?_, by rw [hd]; exact hl⟩
          simp only [rec, hd, h3]
          rw [sum4_num4 r (by omega), List.append_assoc, List.append_assoc, show r.drop (4 + n) = (r.drop 4).drop n by rw [List.drop_drop], List.take_append_drop, List.cons_append, List.take_append_drop, ho]
theorem next_left (l : List UInt8) (h : (next l).2.2 = 0) : (next l).2.1.length + 6 ≤ l.length := by
  obtain ⟨h1, _⟩ := next_one l h
  have := congrArg List.length h1
  rw [List.length_append, rec_len] at this
  have := u_pos (next l).1.2.length
  omega
theorem next_rec (r : Rc) (t : List UInt8) (h : r.2.length ≤ 1048576) : next (rec r ++ t) = (r, t, 0) := by
  obtain ⟨k, d⟩ := r
  simp only at h
  have e : rec (k, d) ++ t = k :: (u d.length ++ (sum4 (rsum (k, d)) ++ (d ++ t))) := by simp [rec]
  have ht := takeMost_u d.length (sum4 (rsum (k, d)) ++ (d ++ t)) 1048576 (by omega) (by omega)
  rw [e, next, ht]
  have hl : (sum4 (rsum (k, d)) ++ (d ++ t)).length = 4 + d.length + t.length := by simp [sum4_len]; omega
  have hd4 : (sum4 (rsum (k, d)) ++ (d ++ t)).drop 4 = d ++ t := by rw [List.drop_append_of_le_length (by simp [sum4_len]), List.drop_of_length_le (by simp [sum4_len]), List.nil_append]
  rw [if_neg (by simp), if_neg (by simp only; omega)]
  simp only [hd4, List.take_left']
  rw [if_neg (by simp [num4_sum4 _ (show rsum (k, d) < 4294967296 from sum_lt _)])]
  rw [show (4 + d.length) = 4 + d.length from rfl, ← List.drop_drop, hd4, List.drop_left]

theorem next_cut (r : Rc) (j : Nat) (h : r.2.length ≤ 1048576) (hj : j < (rec r).length) : (next ((rec r).take j)).2.2 ≠ 0 := by
  intro h0
  obtain ⟨h1, _⟩ := next_one _ h0
  have h2 : rec (next ((rec r).take j)).1 ++ ((next ((rec r).take j)).2.1 ++ (rec r).drop j) = rec r := by
    rw [← List.append_assoc, h1, List.take_append_drop]
  have h3 := next_rec (next ((rec r).take j)).1 ((next ((rec r).take j)).2.1 ++ (rec r).drop j) (next_one _ h0).2
  rw [h2] at h3
  have h4 := next_rec r [] h
  rw [List.append_nil] at h4
  rw [h4] at h3
  have h5 := congrArg (fun x => x.2.1.length) h3
  simp at h5
  omega

def all : Nat → List UInt8 → List Rc × List UInt8
  | 0, l => ([], l)
  | f + 1, l => if (next l).2.2 = 0 then ((next l).1 :: (all f (next l).2.1).1, (all f (next l).2.1).2) else ([], l)
theorem all_stop {f : Nat} {l : List UInt8} (h : (next l).2.2 ≠ 0) : all f l = ([], l) := by
  cases f with
  | zero => rfl
  | succ f => rw [all, if_neg h]
theorem all_go {f : Nat} {l : List UInt8} (h : (next l).2.2 = 0) : all (f + 1) l = ((next l).1 :: (all f (next l).2.1).1, (all f (next l).2.1).2) := by rw [all, if_pos h]
theorem all_fuel : ∀ (f g : Nat) (l : List UInt8), l.length ≤ f → l.length ≤ g → all f l = all g l
  | 0, g, l, hf, _ => by
    obtain rfl := List.eq_nil_of_length_eq_zero (by omega : l.length = 0)
    rw [all_stop (by simp [next]), all_stop (by simp [next])]
  | f + 1, 0, l, _, hg => by
    obtain rfl := List.eq_nil_of_length_eq_zero (by omega : l.length = 0)
    rw [all_stop (by simp [next]), all_stop (by simp [next])]
  | f + 1, g + 1, l, hf, hg => by
    by_cases h : (next l).2.2 = 0
    · have := next_left l h
      rw [all_go h, all_go h, all_fuel f g _ (by omega) (by omega)]
    · rw [all_stop h, all_stop h]
def recs (l : List UInt8) : List Rc := (all l.length l).1
def left (l : List UInt8) : List UInt8 := (all l.length l).2
theorem recs_stop {l : List UInt8} (h : (next l).2.2 ≠ 0) : recs l = [] ∧ left l = l := by
  unfold recs left
  rw [all_stop h]
  exact ⟨rfl, rfl⟩
theorem recs_go {l : List UInt8} (h : (next l).2.2 = 0) : recs l = (next l).1 :: recs (next l).2.1 ∧ left l = left (next l).2.1 := by
  unfold recs left
  have := next_left l h
  obtain ⟨n, hn⟩ : ∃ n, l.length = n + 1 := ⟨l.length - 1, by omega⟩
  rw [hn, all_go h, all_fuel n _ _ (by omega) (Nat.le_refl _)]
  exact ⟨rfl, rfl⟩
theorem left_le (l : List UInt8) : (left l).length ≤ l.length := by
  suffices h : ∀ n (l : List UInt8), l.length ≤ n → (left l).length ≤ l.length from h _ l (Nat.le_refl _)
  intro n
  induction n with
  | zero =>
    intro l hl
    obtain rfl := List.eq_nil_of_length_eq_zero (by omega : l.length = 0)
    exact Nat.le_refl _
  | succ n ih =>
    intro l hl
    by_cases h : (next l).2.2 = 0
    · have h1 := next_left l h
      have := ih (next l).2.1 (by omega)
      rw [(recs_go h).2]
      omega
    · rw [(recs_stop h).2]
      exact Nat.le_refl _
def laid (rs : List Rc) : List UInt8 := rs.flatMap rec
theorem laid_cons (r : Rc) (rs : List Rc) : laid (r :: rs) = rec r ++ laid rs := by simp [laid]
theorem laid_snoc (rs : List Rc) (r : Rc) : laid (rs ++ [r]) = laid rs ++ rec r := by simp [laid]
theorem recs_laid : ∀ (rs : List Rc) (t : List UInt8), (∀ r ∈ rs, r.2.length ≤ 1048576) → (next t).2.2 ≠ 0 → recs (laid rs ++ t) = rs ∧ left (laid rs ++ t) = t
  | [], t, _, ht => by simpa [laid] using recs_stop ht
  | r :: rs, t, h, ht => by
    have h1 := next_rec r (laid rs ++ t) (h r (by simp))
    rw [laid_cons, List.append_assoc]
    obtain ⟨h2, h3⟩ := recs_go (l := rec r ++ (laid rs ++ t)) (by rw [h1])
    obtain ⟨h4, h5⟩ := recs_laid rs t (fun r hr => h r (by simp [hr])) ht
    rw [h1] at h2 h3
    exact ⟨by rw [h2, h4], by rw [h3, h5]⟩
def whole (rs : List Rc) (cut : Nat) : Nat × Nat :=
  match rs with
  | [] => (0, 0)
  | r :: rs => if (rec r).length ≤ cut then ((whole rs (cut - (rec r).length)).1 + 1, (whole rs (cut - (rec r).length)).2 + (rec r).length) else (0, 0)
theorem whole_le : ∀ (rs : List Rc) (cut : Nat), (whole rs cut).1 ≤ rs.length
  | [], _ => Nat.le_refl _
  | r :: rs, cut => by
    rw [whole]
    split
    · have := whole_le rs (cut - (rec r).length); simp; exact this
    · exact Nat.zero_le _
theorem next_nil : (next []).2.2 ≠ 0 := by simp [next]
theorem recs_torn : ∀ (rs : List Rc) (cut : Nat), (∀ r ∈ rs, r.2.length ≤ 1048576) → cut ≤ (laid rs).length → recs ((laid rs).take cut) = rs.take (whole rs cut).1 ∧ (left ((laid rs).take cut)).length + (whole rs cut).2 = cut
  | [], cut, _, hc => by
    have h0 : cut = 0 := by simp [laid] at hc; exact hc
    subst h0
    obtain ⟨h1, h2⟩ := recs_stop next_nil
    simp [laid, whole, h1, h2]
  | r :: rs, cut, h, hc => by
    have hr := h r (by simp)
    rw [laid_cons, whole]
    by_cases hlen : (rec r).length ≤ cut
    · rw [if_pos hlen]
      have h1 := next_rec r ((laid rs).take (cut - (rec r).length)) hr
      have e : (rec r ++ laid rs).take cut = rec r ++ (laid rs).take (cut - (rec r).length) := by
        rw [List.take_append, List.take_of_length_le hlen]
      obtain ⟨h2, h3⟩ := recs_go (l := rec r ++ (laid rs).take (cut - (rec r).length)) (by rw [h1])
      obtain ⟨h4, h5⟩ := recs_torn rs (cut - (rec r).length) (fun r hr => h r (by simp [hr])) (by rw [laid_cons, List.length_append] at hc; omega)
      rw [h1] at h2 h3
      rw [e, h2, h3, h4]
      exact ⟨rfl, by simp only; omega⟩
    · rw [if_neg hlen]
      have e : (rec r ++ laid rs).take cut = (rec r).take cut := by rw [List.take_append_of_le_length (by omega)]
      have hn : (next ((rec r).take cut)).2.2 ≠ 0 := next_cut r cut hr (by omega)
      obtain ⟨h1, h2⟩ := recs_stop hn
      rw [e, h1, h2]
      refine ⟨by simp, ?_⟩
      rw [List.length_take]; simp only; omega

end Go.Bar.Frm

namespace Go.Bar.Hd
open Go.RowKit Go.Bar Go.Bar.Leb Go.Bar.Frm Go.Bar.Lab Go.Bar.Xor Go.Bar.Mrg

def addM : List Row → List Pr → Sm → List Row
  | [], L, s => [(L, [s])]
  | r :: h, L, s => if r.1 = L then (r.1, r.2 ++ [s]) :: h else r :: addM h L s
def ixM : List Row → List Pr → Option Nat
  | [], _ => none
  | r :: h, L => if r.1 = L then some 0 else (ixM h L).map (· + 1)
theorem ixM_some : ∀ {h : List Row} {L : List Pr} {i : Nat}, ixM h L = some i → ∃ ss, h[i]? = some (L, ss)
  | [], L, i, e => by cases e
  | r :: h, L, i, e => by
    unfold ixM at e
    by_cases hr : r.1 = L
    · rw [if_pos hr] at e
      injection e with e
      subst e
      exact ⟨r.2, by rw [← hr]; rfl⟩
    · rw [if_neg hr] at e
      cases hi : ixM h L with
      | none => rw [hi] at e; cases e
      | some j =>
        rw [hi] at e
        injection e with e
        subst e
        obtain ⟨ss, h1⟩ := ixM_some hi
        exact ⟨ss, by simpa using h1⟩
theorem ixM_none : ∀ {h : List Row} {L : List Pr}, ixM h L = none ↔ ∀ r ∈ h, r.1 ≠ L
  | [], L => by simp [ixM]
  | r :: h, L => by
    unfold ixM
    by_cases hr : r.1 = L
    · rw [if_pos hr]
      constructor
      · intro e; cases e
      · intro hh; exact absurd hr (hh r List.mem_cons_self)
    · rw [if_neg hr]
      have ih := ixM_none (h := h) (L := L)
      cases hi : ixM h L with
      | none =>
        have h2 := ih.1 hi
        simp only [Option.map_none, true_iff]
        intro q hq
        rcases List.mem_cons.1 hq with rfl | hq
        · exact hr
        · exact h2 q hq
      | some j =>
        simp only [Option.map_some, reduceCtorEq, false_iff]
        intro hh
        have h3 := ih.2 (fun q hq => hh q (List.mem_cons_of_mem _ hq))
        rw [hi] at h3; cases h3
theorem ixM_lt {h : List Row} {L : List Pr} {i : Nat} (e : ixM h L = some i) : i < h.length := by
  obtain ⟨ss, h1⟩ := ixM_some e
  exact (List.getElem?_eq_some_iff.1 h1).1
theorem addM_new : ∀ {h : List Row} {L : List Pr} (s : Sm), ixM h L = none → addM h L s = h ++ [(L, [s])]
  | [], L, s, _ => rfl
  | r :: h, L, s, e => by
    have hn := ixM_none.1 e
    unfold addM
    rw [if_neg (hn r List.mem_cons_self), addM_new s (ixM_none.2 fun q hq => hn q (List.mem_cons_of_mem _ hq))]
    rfl
theorem addM_old : ∀ {h : List Row} {L : List Pr} (s : Sm) {i : Nat} {ss : List Sm}, ixM h L = some i → h[i]? = some (L, ss) → addM h L s = h.set i (L, ss ++ [s])
  | [], L, s, i, ss, e, _ => by cases e
  | r :: h, L, s, i, ss, e, h1 => by
    unfold ixM at e
    unfold addM
    by_cases hr : r.1 = L
    · rw [if_pos hr] at e ⊢
      injection e with e
      subst e
      have : r = (L, ss) := by simpa using h1
      subst this
      rfl
    · rw [if_neg hr] at e ⊢
      cases hi : ixM h L with
      | none => rw [hi] at e; cases e
      | some j =>
        rw [hi] at e
        injection e with e
        subst e
        rw [addM_old s hi (by simpa using h1)]
        rfl
theorem addM_len (h : List Row) (L : List Pr) (s : Sm) : (addM h L s).length = if ixM h L = none then h.length + 1 else h.length := by
  cases hi : ixM h L with
  | none => rw [addM_new s hi, if_pos rfl, List.length_append, List.length_singleton]
  | some i =>
    obtain ⟨ss, h1⟩ := ixM_some hi
    rw [addM_old s hi h1, if_neg (by simp), List.length_set]
theorem addM_ext : ∀ (h : List Row) (L : List Pr) (s : Sm) (r : Row), r ∈ h → ∃ q ∈ addM h L s, q.1 = r.1 ∧ r.2 <+: q.2
  | [], _, _, r, hr => by cases hr
  | x :: h, L, s, r, hr => by
    unfold addM
    by_cases hx : x.1 = L
    · rw [if_pos hx]
      rcases List.mem_cons.1 hr with rfl | hr
      · exact ⟨_, List.mem_cons_self, rfl, List.prefix_append _ _⟩
      · exact ⟨r, List.mem_cons_of_mem _ hr, rfl, List.prefix_refl _⟩
    · rw [if_neg hx]
      rcases List.mem_cons.1 hr with rfl | hr
      · exact ⟨r, List.mem_cons_self, rfl, List.prefix_refl _⟩
      · obtain ⟨q, h1, h2, h3⟩ := addM_ext h L s r hr
        exact ⟨q, List.mem_cons_of_mem _ h1, h2, h3⟩
theorem addM_mem : ∀ {h : List Row} {L : List Pr} {s : Sm} {q : Row}, q ∈ addM h L s → q ∈ h ∨ q.1 = L ∧ ∃ ss, q.2 = ss ++ [s] ∧ (ss = [] ∨ (L, ss) ∈ h)
  | [], L, s, q, hq => by
    obtain rfl := List.mem_singleton.1 hq
    exact .inr ⟨rfl, [], rfl, .inl rfl⟩
  | x :: h, L, s, q, hq => by
    unfold addM at hq
    by_cases hx : x.1 = L
    · rw [if_pos hx] at hq
      rcases List.mem_cons.1 hq with rfl | hq
      · exact .inr ⟨hx, x.2, rfl, .inr (by rw [← hx]; exact List.mem_cons_self)⟩
      · exact .inl (List.mem_cons_of_mem _ hq)
    · rw [if_neg hx] at hq
      rcases List.mem_cons.1 hq with rfl | hq
      · exact .inl List.mem_cons_self
      · rcases addM_mem hq with h1 | ⟨h1, ss, h2, h3⟩
        · exact .inl (List.mem_cons_of_mem _ h1)
        · exact .inr ⟨h1, ss, h2, h3.imp id (List.mem_cons_of_mem _)⟩
theorem addM_labs (h : List Row) (L : List Pr) (s : Sm) : (addM h L s).map (·.1) = if ixM h L = none then h.map (·.1) ++ [L] else h.map (·.1) := by
  cases hi : ixM h L with
  | none => rw [addM_new s hi, if_pos rfl, List.map_append]; rfl
  | some i =>
    obtain ⟨ss, h1⟩ := ixM_some hi
    rw [addM_old s hi h1, if_neg (by simp), List.map_set]
    refine List.ext_getElem? fun j => ?_
    rw [List.getElem?_set]
    split
    · rename_i e
      subst e
      rw [List.getElem?_map, h1]
      simp [(List.getElem?_eq_some_iff.1 h1).1]
    · rfl
def lastT (ss : List Sm) : Int := match ss.getLast? with | some s => s.1 | none => -1
theorem lastT_snoc (ss : List Sm) (s : Sm) : lastT (ss ++ [s]) = s.1 := by unfold lastT; rw [List.getLast?_concat]
theorem ris_snoc {ss : List Sm} (h : Ris ss) {s : Sm} (hl : ss = [] ∨ lastT ss < s.1) : Ris (ss ++ [s]) := by
  unfold Ris at *
  rw [List.pairwise_append]
  refine ⟨h, List.pairwise_singleton _ _, fun a ha b hb => ?_⟩
  obtain rfl := List.mem_singleton.1 hb
  rcases hl with rfl | hl
  · cases ha
  · rcases List.eq_nil_or_concat ss with rfl | ⟨i, c, rfl⟩
    · cases ha
    · rw [List.concat_eq_append] at *
      rw [lastT_snoc] at hl
      rcases List.mem_append.1 ha with ha | ha
      · exact Int.lt_trans ((List.pairwise_append.1 h).2.2 a ha c List.mem_cons_self) hl
      · obtain rfl := List.mem_singleton.1 ha
        exact hl
def TmOk (s : Sm) : Prop := 0 ≤ s.1 ∧ s.1 < 1099511627776 ∧ s.2 < 18446744073709551616
structure Gd (h : List Row) : Prop where
  nd : (h.map (·.1)).Nodup
  ok : ∀ r ∈ h, Ok r.1
  ne : ∀ r ∈ h, r.2 ≠ []
  ris : ∀ r ∈ h, Ris r.2
  tm : ∀ r ∈ h, ∀ s ∈ r.2, TmOk s
theorem Gd.nil : Gd [] := ⟨List.nodup_nil, fun r hr => (by cases hr), fun r hr => (by cases hr), fun r hr => (by cases hr), fun r hr => (by cases hr)⟩
structure OkP (h : List Row) (p : List Pr × Sm) : Prop where
  lab : Ok p.1
  tm : TmOk p.2
  last : ∀ ss, (p.1, ss) ∈ h → lastT ss < p.2.1
theorem Gd.add {h : List Row} (g : Gd h) {p : List Pr × Sm} (k : OkP h p) : Gd (addM h p.1 p.2) := by
  have hm : ∀ q ∈ addM h p.1 p.2, q ∈ h ∨ q.1 = p.1 ∧ ∃ ss, q.2 = ss ++ [p.2] ∧ (ss = [] ∨ (p.1, ss) ∈ h) := fun q hq => addM_mem hq
  refine ⟨?_, fun q hq => ?_, fun q hq => ?_, fun q hq => ?_, fun q hq s hs => ?_⟩
  · rw [addM_labs]
    split
    · rename_i e
      have hn := ixM_none.1 e
      rw [List.nodup_append]
      refine ⟨g.nd, by simp, fun a ha b hb => ?_⟩
      obtain rfl := List.mem_singleton.1 hb
      obtain ⟨r, hr, rfl⟩ := List.mem_map.1 ha
      exact hn r hr
    · exact g.nd
  · rcases hm q hq with h1 | ⟨h1, _⟩
    · exact g.ok q h1
    · rw [h1]; exact k.lab
  · rcases hm q hq with h1 | ⟨_, ss, h2, _⟩
    · exact g.ne q h1
    · rw [h2]; simp
  · rcases hm q hq with h1 | ⟨_, ss, h2, h3⟩
    · exact g.ris q h1
    · rw [h2]
      rcases h3 with rfl | h3
      · exact List.pairwise_singleton _ _
      · exact ris_snoc (g.ris _ h3) (.inr (k.last ss h3))
  · rcases hm q hq with h1 | ⟨_, ss, h2, h3⟩
    · exact g.tm q h1 s hs
    · rw [h2] at hs
      rcases List.mem_append.1 hs with hs | hs
      · rcases h3 with rfl | h3
        · cases hs
        · exact g.tm _ h3 s hs
      · obtain rfl := List.mem_singleton.1 hs
        exact k.tm
def addMs (h : List Row) (ps : List (List Pr × Sm)) : List Row := ps.foldl (fun h p => addM h p.1 p.2) h
def OksM : List Row → List (List Pr × Sm) → Prop
  | _, [] => True
  | h, p :: ps => OkP h p ∧ OksM (addM h p.1 p.2) ps
theorem Gd.adds : ∀ {ps : List (List Pr × Sm)} {h : List Row}, Gd h → OksM h ps → Gd (addMs h ps)
  | [], _, g, _ => g
  | _ :: ps, _, g, k => Gd.adds (ps := ps) (g.add k.1) k.2
theorem oksM_snoc : ∀ {ps : List (List Pr × Sm)} {h : List Row} {p : List Pr × Sm}, OksM h (ps ++ [p]) ↔ OksM h ps ∧ OkP (addMs h ps) p
  | [], h, p => by simp [OksM, addMs]
  | q :: ps, h, p => by
    show OkP h q ∧ OksM _ (ps ++ [p]) ↔ (OkP h q ∧ OksM _ ps) ∧ OkP (addMs (addM h q.1 q.2) ps) p
    rw [oksM_snoc, and_assoc]
theorem addMs_snoc (h : List Row) (ps : List (List Pr × Sm)) (p : List Pr × Sm) : addMs h (ps ++ [p]) = addM (addMs h ps) p.1 p.2 := by unfold addMs; rw [List.foldl_append]; rfl
theorem addMs_ext : ∀ (ps : List (List Pr × Sm)) (h : List Row) (r : Row), r ∈ h → ∃ q ∈ addMs h ps, q.1 = r.1 ∧ r.2 <+: q.2
  | [], h, r, hr => ⟨r, hr, rfl, List.prefix_refl _⟩
  | p :: ps, h, r, hr => by
    obtain ⟨q, h1, h2, h3⟩ := addM_ext h p.1 p.2 r hr
    obtain ⟨x, k1, k2, k3⟩ := addMs_ext ps (addM h p.1 p.2) q h1
    exact ⟨x, k1, k2.trans h2, h3.trans k3⟩
theorem addMs_len (ps : List (List Pr × Sm)) : ∀ h : List Row, (addMs h ps).length ≤ h.length + ps.length := by
  induction ps with
  | nil => intro h; exact Nat.le_refl _
  | cons p ps ih =>
    intro h
    have h1 := ih (addM h p.1 p.2)
    have h2 := addM_len h p.1 p.2
    show (addMs (addM h p.1 p.2) ps).length ≤ _
    rw [List.length_cons]
    split at h2 <;> omega

inductive It where
  | ser (n : Nat) (L : List Pr)
  | smp (n : Nat) (s : Sm)
def encI : It → Rc
  | .ser n L => (1, u n ++ key L)
  | .smp n s => (2, u n ++ u s.1.toNat ++ u s.2)
def itOne (h : List Row) (p : List Pr × Sm) : List It := match ixM h p.1 with
  | some i => [.smp (i + 1) p.2]
  | none => [.ser (h.length + 1) p.1, .smp (h.length + 1) p.2]
def its : List Row → List (List Pr × Sm) → List It
  | _, [] => []
  | h, p :: ps => itOne h p ++ its (addM h p.1 p.2) ps
theorem its_snoc : ∀ (ps : List (List Pr × Sm)) (h : List Row) (p : List Pr × Sm), its h (ps ++ [p]) = its h ps ++ itOne (addMs h ps) p
  | [], h, p => by simp [its, addMs]
  | q :: ps, h, p => by
    show itOne h q ++ its _ (ps ++ [p]) = (itOne h q ++ its _ ps) ++ _
    rw [its_snoc, List.append_assoc]
    rfl
theorem its_app : ∀ (ps qs : List (List Pr × Sm)) (h : List Row), its h (ps ++ qs) = its h ps ++ its (addMs h ps) qs
  | [], qs, h => rfl
  | q :: ps, qs, h => by
    show itOne h q ++ its _ (ps ++ qs) = (itOne h q ++ its _ ps) ++ _
    rw [its_app, List.append_assoc]
    rfl
theorem itOne_len (h : List Row) (p : List Pr × Sm) : (itOne h p).length ≤ 2 := by unfold itOne; split <;> simp
theorem its_len : ∀ (ps : List (List Pr × Sm)) (h : List Row), (its h ps).length ≤ 2 * ps.length
  | [], h => Nat.le_refl _
  | p :: ps, h => by
    have h1 := its_len ps (addM h p.1 p.2)
    have h2 := itOne_len h p
    show (itOne h p ++ its _ ps).length ≤ _
    rw [List.length_append, List.length_cons]; omega

structure Rp where
  h : List Row
  sets : Nat → Option (List Pr)
  nx : Nat
def stepR (x : Rp) : It → Rp
  | .ser n L => ⟨x.h, fun m => if m = n then some L else x.sets m, max x.nx (n + 1)⟩
  | .smp n s => match x.sets n with
    | some L => ⟨addM x.h L s, x.sets, max x.nx (n + 1)⟩
    | none => x
def PreR (x : Rp) : It → Prop
  | .ser n L => 1 ≤ n ∧ n ≤ 1000000 ∧ Ok L
  | .smp n s => 1 ≤ n ∧ n ≤ 1000000 ∧ ∃ L, x.sets n = some L ∧ OkP x.h (L, s) ∧ (ixM x.h L = some (n - 1) ∨ ixM x.h L = none ∧ n = x.h.length + 1)
def runR (x : Rp) (l : List It) : Rp := l.foldl stepR x
def PresR : Rp → List It → Prop
  | _, [] => True
  | x, i :: l => PreR x i ∧ PresR (stepR x i) l
structure InvR (x : Rp) : Prop where
  gd : Gd x.h
  set : ∀ i r, x.h[i]? = some r → x.sets (i + 1) = some r.1
  lab : ∀ n L, x.sets n = some L → Ok L
  nx : x.h.length + 1 ≤ x.nx
  len : x.nx ≤ 1000002
theorem presR_app : ∀ (a b : List It) (x : Rp), PresR x (a ++ b) ↔ PresR x a ∧ PresR (runR x a) b
  | [], b, x => by simp [PresR, runR]
  | i :: a, b, x => by
    show PreR x i ∧ PresR _ (a ++ b) ↔ (PreR x i ∧ PresR _ a) ∧ PresR (runR (stepR x i) a) b
    rw [presR_app, and_assoc]
theorem presR_take {l : List It} {x : Rp} (h : PresR x l) (j : Nat) : PresR x (l.take j) := by
  rw [← List.take_append_drop j l, presR_app] at h
  exact h.1
theorem replay_one {x : Rp} (hI : InvR x) {p : List Pr × Sm} (hp : OkP x.h p) (hl : x.h.length ≤ 900000) : PresR x (itOne x.h p) ∧ (runR x (itOne x.h p)).h = addM x.h p.1 p.2 ∧ InvR (runR x (itOne x.h p)) := by
  unfold itOne
  cases hi : ixM x.h p.1 with
  | some i =>
    obtain ⟨ss, h1⟩ := ixM_some hi
    have hlt := ixM_lt hi
    have hs := hI.set i _ h1
    have e : stepR x (.smp (i + 1) p.2) = ⟨addM x.h p.1 p.2, x.sets, max x.nx (i + 1 + 1)⟩ := by
      show (match x.sets (i + 1) with | some L => _ | none => _) = _
      rw [hs]
    refine ⟨⟨⟨by omega, by omega, p.1, hs, hp, .inl hi⟩, trivial⟩, ?_, ?_⟩
    · show (stepR x (.smp (i + 1) p.2)).h = _
      rw [e]
    · show InvR (stepR x (.smp (i + 1) p.2))
      rw [e]
      have hlen := addM_len x.h p.1 p.2
      rw [if_neg (by rw [hi]; simp)] at hlen
      have h5 := hI.nx
      have h6 := hI.len
      refine ⟨hI.gd.add hp, fun j r hj => ?_, hI.lab, by show (addM x.h p.1 p.2).length + 1 ≤ max _ _; omega, by show max _ _ ≤ _; omega⟩
      have hj : (addM x.h p.1 p.2)[j]? = some r := hj
      have h2 := congrArg (fun l : List (List Pr) => l[j]?) (addM_labs x.h p.1 p.2)
      rw [if_neg (by rw [hi]; simp)] at h2
      simp only [List.getElem?_map, hj, Option.map_some] at h2
      cases hr : x.h[j]? with
      | none => rw [hr] at h2; cases h2
      | some q =>
        rw [hr] at h2
        injection h2 with h2
        rw [h2]
        exact hI.set j q hr
  | none =>
    have hn := ixM_none.1 hi
    have e1 : stepR x (.ser (x.h.length + 1) p.1) = ⟨x.h, fun m => if m = x.h.length + 1 then some p.1 else x.sets m, max x.nx (x.h.length + 1 + 1)⟩ := rfl
    have e2 : stepR ⟨x.h, fun m => if m = x.h.length + 1 then some p.1 else x.sets m, max x.nx (x.h.length + 1 + 1)⟩ (.smp (x.h.length + 1) p.2) = ⟨addM x.h p.1 p.2, fun m => if m = x.h.length + 1 then some p.1 else x.sets m, max (max x.nx (x.h.length + 1 + 1)) (x.h.length + 1 + 1)⟩ := by
      show (match (if x.h.length + 1 = x.h.length + 1 then some p.1 else x.sets (x.h.length + 1)) with | some L => _ | none => _) = _
      rw [if_pos rfl]
    have h5 := hI.nx
    have h6 := hI.len
    have hlen := addM_len x.h p.1 p.2
    rw [if_pos hi] at hlen
    refine ⟨⟨⟨by omega, by omega, hp.lab⟩, ⟨by omega, by omega, p.1, ?_, ?_, ?_⟩, trivial⟩, ?_, ?_⟩
    · rw [e1]; show (if _ then _ else _) = _; rw [if_pos rfl]
    · rw [e1]; exact hp
    · rw [e1]; exact .inr ⟨hi, rfl⟩
    · show (stepR (stepR x (.ser (x.h.length + 1) p.1)) (.smp (x.h.length + 1) p.2)).h = _
      rw [e1, e2]
    · show InvR (stepR (stepR x (.ser (x.h.length + 1) p.1)) (.smp (x.h.length + 1) p.2))
      rw [e1, e2]
      refine ⟨hI.gd.add hp, fun j r hj => ?_, fun n L hL => ?_, by show (addM x.h p.1 p.2).length + 1 ≤ max _ _; omega, by show max _ _ ≤ _; omega⟩
      · have hj : (addM x.h p.1 p.2)[j]? = some r := hj
        rw [addM_new p.2 hi] at hj
        show (if j + 1 = x.h.length + 1 then some p.1 else x.sets (j + 1)) = some r.1
        by_cases hjl : j < x.h.length
        · rw [if_neg (by omega)]
          rw [List.getElem?_append_left hjl] at hj
          exact hI.set j r hj
        · rw [List.getElem?_append_right (by omega)] at hj
          have hj0 : j - x.h.length = 0 := by
            rcases Nat.eq_zero_or_pos (j - x.h.length) with h | h
            · exact h
            · rw [List.getElem?_eq_none (by simp; omega)] at hj; cases hj
          rw [hj0] at hj
          injection hj with hj
          rw [if_pos (by omega), ← hj]
      · have hL : (if n = x.h.length + 1 then some p.1 else x.sets n) = some L := hL
        split at hL
        · injection hL with hL; rw [← hL]; exact hp.lab
        · exact hI.lab n L hL
theorem replay_all : ∀ (ps : List (List Pr × Sm)) {x : Rp}, InvR x → OksM x.h ps → x.h.length + ps.length ≤ 900000 → PresR x (its x.h ps) ∧ (runR x (its x.h ps)).h = addMs x.h ps ∧ InvR (runR x (its x.h ps))
  | [], x, hI, _, _ => ⟨trivial, rfl, hI⟩
  | p :: ps, x, hI, hk, hl => by
    rw [List.length_cons] at hl
    obtain ⟨a1, a2, a3⟩ := replay_one hI hk.1 (by omega)
    have hl2 := addM_len x.h p.1 p.2
    obtain ⟨b1, b2, b3⟩ := replay_all ps a3 (by rw [a2]; exact hk.2) (by rw [a2]; split at hl2 <;> omega)
    rw [a2] at b1 b2 b3
    have e : runR x (its x.h (p :: ps)) = runR (runR x (itOne x.h p)) (its (addM x.h p.1 p.2) ps) := by
      show runR x (itOne x.h p ++ _) = _
      unfold runR
      rw [List.foldl_append]
    rw [e]
    refine ⟨?_, b2, b3⟩
    show PresR x (itOne x.h p ++ _)
    rw [presR_app]
    exact ⟨a1, b1⟩
theorem replay_part : ∀ (ps : List (List Pr × Sm)) {x : Rp}, InvR x → OksM x.h ps → x.h.length + ps.length ≤ 900000 → ∀ j, ∃ m, (runR x ((its x.h ps).take j)).h = addMs x.h (ps.take m)
  | [], x, _, _, _, j => ⟨0, by simp [its, runR, addMs]⟩
  | p :: ps, x, hI, hk, hl, j => by
    rw [List.length_cons] at hl
    obtain ⟨a1, a2, a3⟩ := replay_one hI hk.1 (by omega)
    have hl2 := addM_len x.h p.1 p.2
    by_cases hj : j < (itOne x.h p).length
    · refine ⟨0, ?_⟩
      have e : (its x.h (p :: ps)).take j = (itOne x.h p).take j := by
        show (itOne x.h p ++ _).take j = _
        rw [List.take_append_of_le_length (by omega)]
      rw [e]
      show _ = x.h
      unfold itOne at hj ⊢
      cases hi : ixM x.h p.1 with
      | some i =>
        rw [hi] at hj
        simp only [List.length_singleton] at hj
        obtain rfl : j = 0 := by omega
        rfl
      | none =>
        rw [hi] at hj
        simp only [List.length_cons, List.length_nil] at hj
        rcases j with _ | _ | j
        · rfl
        · rfl
        · omega
    · obtain ⟨m, hm⟩ := replay_part ps a3 (by rw [a2]; exact hk.2) (by rw [a2]; split at hl2 <;> omega) (j - (itOne x.h p).length)
      refine ⟨m + 1, ?_⟩
      rw [a2] at hm
      have e : (its x.h (p :: ps)).take j = itOne x.h p ++ (its (addM x.h p.1 p.2) ps).take (j - (itOne x.h p).length) := by
        show (itOne x.h p ++ _).take j = _
        rw [List.take_append, List.take_of_length_le (by omega)]
      rw [e]
      show (runR x (_ ++ _)).h = _
      unfold runR at hm ⊢
      rw [List.foldl_append, hm]
      rfl
end Go.Bar.Hd

namespace Go.Bar.Hd
open Go.RowKit Go.Bar Go.Bar.Leb Go.Bar.Frm Go.Bar.Lab Go.Bar.Xor Go.Bar.Mrg

def LbOk (L : List Pr) : Prop := L.length ≤ 100 ∧ ∀ p ∈ L, p.1.length ≤ 100 ∧ p.2.length ≤ 100
theorem nameB_len {s : List UInt8} (h : nameB s = true) : s.length ≤ 40 := by
  unfold nameB at h
  simp only [Bool.and_eq_true, decide_eq_true_eq] at h
  exact h.2
theorem LbOk.of_ok {L : List Pr} (h : Ok L) : LbOk L := ⟨by have := h.2.1; omega, fun p hp => by
  have h1 := h.2.2.1 p hp
  unfold okP at h1
  simp only [Bool.and_eq_true, decide_eq_true_eq] at h1
  have h2 := nameB_len h1.1.1
  have h3 := h1.2
  omega⟩
theorem key_eq {L M : List Pr} (h : LbOk L) (k : LbOk M) : key L = key M ↔ L = M := key_inj h.1 k.1 h.2 k.2
def ixK : List Row → List UInt8 → Option Nat
  | [], _ => none
  | r :: h, k => if key r.1 = k then some 0 else (ixK h k).map (· + 1)
theorem ixK_key : ∀ {h : List Row} {L : List Pr}, (∀ r ∈ h, LbOk r.1) → LbOk L → ixK h (key L) = ixM h L
  | [], _, _, _ => rfl
  | r :: h, L, hh, hL => by
    unfold ixK ixM
    have ih := ixK_key (h := h) (L := L) (fun q hq => hh q (List.mem_cons_of_mem _ hq)) hL
    by_cases hr : r.1 = L
    · rw [if_pos hr, if_pos (by rw [hr])]
    · rw [if_neg hr, if_neg (fun e => hr ((key_eq (hh r List.mem_cons_self) hL).1 e)), ih]
theorem ixK_snoc : ∀ (h : List Row) (r : Row) (k : List UInt8), ixK (h ++ [r]) k = match ixK h k with | some i => some i | none => if key r.1 = k then some h.length else none
  | [], r, k => by
    show (if key r.1 = k then some 0 else (ixK [] k).map (· + 1)) = _
    split <;> rfl
  | x :: h, r, k => by
    show (if key x.1 = k then some 0 else (ixK (h ++ [r]) k).map (· + 1)) = match (if key x.1 = k then some 0 else (ixK h k).map (· + 1)) with | some i => some i | none => _
    rw [ixK_snoc h r k]
    by_cases hx : key x.1 = k
    · rw [if_pos hx, if_pos hx]
    · rw [if_neg hx, if_neg hx]
      cases ixK h k with
      | some i => rfl
      | none =>
        simp only [Option.map_none]
        by_cases hr : key r.1 = k
        · rw [if_pos hr, if_pos hr]; rfl
        · rw [if_neg hr, if_neg hr]; rfl
theorem ixK_labs : ∀ {h g : List Row}, h.map (·.1) = g.map (·.1) → ∀ k, ixK h k = ixK g k
  | [], [], _, _ => rfl
  | [], _ :: _, e, _ => by cases e
  | _ :: _, [], e, _ => by cases e
  | x :: h, y :: g, e, k => by
    rw [List.map_cons, List.map_cons] at e
    injection e with e1 e2
    unfold ixK
    rw [e1, ixK_labs e2 k]
def refF (h : List Row) : List UInt8 → Option Int := fun k => (ixK h k).map fun i : Nat => ((i : Int) + 1)
theorem refF_nil : refF [] = fun _ => none := rfl
theorem refF_new {h : List Row} {L : List Pr} {s : Sm} (hh : ∀ r ∈ h, LbOk r.1) (hL : LbOk L) (hn : ixM h L = none) : updF (refF h) (key L) ((h.length : Int) + 1) = refF (addM h L s) := by
  funext k
  rw [addM_new s hn]
  unfold refF
  rw [ixK_snoc]
  by_cases hk : k = key L
  · subst hk
    rw [updF_same, ixK_key hh hL, hn]
    simp
  · rw [updF_ne _ _ hk]
    cases ixK h k with
    | some i => rfl
    | none =>
      simp only
      rw [if_neg (fun e => hk e.symm)]
theorem refF_old {h : List Row} {L : List Pr} {s : Sm} {i : Nat} (hi : ixM h L = some i) : refF (addM h L s) = refF h := by
  funext k
  unfold refF
  rw [ixK_labs (g := h) (by rw [addM_labs, if_neg (by rw [hi]; simp)])]
theorem refF_key {h : List Row} {L : List Pr} (hh : ∀ r ∈ h, LbOk r.1) (hL : LbOk L) : refF h (key L) = (ixM h L).map fun i : Nat => ((i : Int) + 1) := by
  unfold refF
  rw [ixK_key hh hL]
def ofF (n : Nat) (Q : Nat → Nat) : Int → Option (Option Nat) := fun z => if 1 ≤ z ∧ z ≤ (n : Int) then some (some (Q (z - 1).toNat)) else none
theorem ofF_zero (Q : Nat → Nat) : ofF 0 Q = fun _ => none := by
  funext z
  unfold ofF
  rw [if_neg (by omega)]
theorem ofF_at {n : Nat} (Q : Nat → Nat) {i : Nat} (h : i < n) : ofF n Q ((i : Int) + 1) = some (some (Q i)) := by
  unfold ofF
  rw [if_pos (by omega), show ((i : Int) + 1 - 1).toNat = i by omega]
theorem ofF_out {n : Nat} (Q : Nat → Nat) {z : Int} (h : (n : Int) < z) : ofF n Q z = none := by
  unfold ofF
  rw [if_neg (by omega)]
def updQ (Q : Nat → Nat) (n P : Nat) : Nat → Nat := fun i => if i = n then P else Q i
theorem updQ_same (Q : Nat → Nat) (n P : Nat) : updQ Q n P n = P := if_pos rfl
theorem updQ_ne (Q : Nat → Nat) {n i : Nat} (P : Nat) (h : i ≠ n) : updQ Q n P i = Q i := if_neg h
theorem ofF_new (n : Nat) (Q : Nat → Nat) (P : Nat) : updF (ofF n Q) ((n : Int) + 1) (some P) = ofF (n + 1) (updQ Q n P) := by
  funext z
  by_cases hz : z = (n : Int) + 1
  · subst hz
    rw [updF_same, ofF_at _ (Nat.lt_succ_self n), updQ_same]
  · rw [updF_ne _ _ hz]
    unfold ofF
    by_cases h : 1 ≤ z ∧ z ≤ (n : Int)
    · rw [if_pos h, if_pos (by omega), updQ_ne _ _ (by omega)]
    · rw [if_neg h, if_neg (by omega)]

def ltR (a b : Row) : Prop := cmpL a.1 b.1 < 0
def SelR (h R : List Row) : Prop := R.Perm h ∧ R.Pairwise ltR
theorem ltR_asymm {a b : Row} (h : ltR a b) (k : ltR b a) : False := by
  unfold ltR at *
  have := cmpL_neg a.1 b.1
  omega
theorem SelR.unique {h R S : List Row} (a : SelR h R) (b : SelR h S) : R = S :=
  (a.1.trans b.1.symm).eq_of_pairwise (fun _ _ _ _ h1 h2 => (ltR_asymm h1 h2).elim) a.2 b.2
theorem betw_id {R : List Row} (h : ∀ r ∈ R, r.2 ≠ [] ∧ ∀ s ∈ r.2, 0 ≤ s.1 ∧ s.1 < 1099511627776) : betw R 0 1099511627776 = R := by
  unfold betw
  have : ∀ r ∈ R, cutR 0 1099511627776 r = some r := fun r hr => by
    obtain ⟨h1, h2⟩ := h r hr
    have hf : r.2.filter (inT 0 1099511627776) = r.2 := List.filter_eq_self.2 fun s hs => by
      obtain ⟨h3, h4⟩ := h2 s hs
      unfold inT
      rw [decide_eq_true h3, decide_eq_true h4]; rfl
    unfold cutR
    rw [hf, if_neg h1]
  clear h
  induction R with
  | nil => rfl
  | cons x R ih =>
    rw [List.filterMap_cons, this x List.mem_cons_self]
    simp only
    rw [ih fun r hr => this r (List.mem_cons_of_mem _ hr)]
theorem SelR.in_ {h R : List Row} (a : SelR h R) (g : Gd h) : betw R 0 1099511627776 = R := betw_id fun r hr => ⟨g.ne r (a.1.mem_iff.1 hr), fun s hs => by have := g.tm r (a.1.mem_iff.1 hr) s hs; exact ⟨this.1, this.2.1⟩⟩
theorem SelR.ext {h g R S : List Row} (a : SelR h R) (b : SelR g S) (he : ∀ r ∈ h, ∃ q ∈ g, q.1 = r.1 ∧ r.2 <+: q.2) : ∀ r ∈ R, ∃ q ∈ S, q.1 = r.1 ∧ r.2 <+: q.2 := fun r hr => by
  obtain ⟨q, h1, h2⟩ := he r (a.1.mem_iff.1 hr)
  exact ⟨q, b.1.mem_iff.2 h1, h2⟩

theorem u_short (n : Nat) (h : n < 128) : (u n).length ≤ 1 := u_len_le 0 n (by omega)
def Small (L : List Pr) : Prop := (key L).length ≤ 30
def SmI : It → Prop
  | .ser n L => n < 18446744073709551616 ∧ Small L
  | .smp n s => n < 18446744073709551616 ∧ TmOk s
theorem encI_len {i : It} (h : SmI i) : (encI i).2.length ≤ 40 ∧ (encI i).1 ≠ 255 := by
  cases i with
  | ser n L =>
    obtain ⟨h1, h2⟩ := h
    have := u_len n h1
    unfold Small at h2
    refine ⟨?_, (by decide : (1 : UInt8) ≠ 255)⟩
    show (u n ++ key L).length ≤ 40
    rw [List.length_append]; omega
  | smp n s =>
    obtain ⟨h1, h2, h3, h4⟩ := h
    have a1 := u_len n h1
    have a2 := u_len s.1.toNat (by omega)
    have a3 := u_len s.2 h4
    refine ⟨?_, (by decide : (2 : UInt8) ≠ 255)⟩
    show (u n ++ u s.1.toNat ++ u s.2).length ≤ 40
    rw [List.length_append, List.length_append]; omega
theorem laidI_len : ∀ {l : List It}, (∀ i ∈ l, SmI i) → (laid (l.map encI)).length ≤ 46 * l.length
  | [], _ => by simp [laid]
  | i :: l, h => by
    have h1 := laidI_len (l := l) fun j hj => h j (List.mem_cons_of_mem _ hj)
    have h2 := (encI_len (h i List.mem_cons_self)).1
    have h3 := u_short (encI i).2.length (by omega)
    have h4 := rec_len (encI i)
    rw [List.map_cons, laid_cons, List.length_append, List.length_cons]; omega
theorem itOne_small {h : List Row} {p : List Pr × Sm} (hl : h.length ≤ 1000000) (hp : Small p.1) (ht : TmOk p.2) : ∀ i ∈ itOne h p, SmI i := by
  unfold itOne
  intro i hi
  cases hx : ixM h p.1 with
  | some j =>
    rw [hx] at hi
    have hj := ixM_lt hx
    obtain rfl := List.mem_singleton.1 hi
    exact ⟨by omega, ht⟩
  | none =>
    rw [hx] at hi
    simp only [List.mem_cons, List.not_mem_nil, or_false] at hi
    rcases hi with rfl | rfl
    · exact ⟨by omega, hp⟩
    · exact ⟨by omega, ht⟩
theorem its_small : ∀ {ps : List (List Pr × Sm)} {h : List Row}, h.length + ps.length ≤ 1000000 → (∀ p ∈ ps, Small p.1 ∧ TmOk p.2) → ∀ i ∈ its h ps, SmI i
  | [], _, _, _, i, hi => by cases hi
  | p :: ps, h, hl, hp, i, hi => by
    rw [List.length_cons] at hl
    have hl2 := addM_len h p.1 p.2
    rcases List.mem_append.1 hi with hi | hi
    · exact itOne_small (by omega) (hp p List.mem_cons_self).1 (hp p List.mem_cons_self).2 i hi
    · exact its_small (ps := ps) (h := addM h p.1 p.2) (by split at hl2 <;> omega) (fun q hq => hp q (List.mem_cons_of_mem _ hq)) i hi
end Go.Bar.Hd

namespace Go.Bar.Hd
open Go.RowKit Go.Bar Go.Bar.Leb Go.Bar.Frm Go.Bar.Lab Go.Bar.Xor Go.Bar.Mrg
abbrev Pnt := List Pr × Sm
theorem nodup_row {h : List Row} (hn : (h.map (·.1)).Nodup) {L : List Pr} {a b : List Sm} (ha : (L, a) ∈ h) (hb : (L, b) ∈ h) : a = b := by
  induction h with
  | nil => cases ha
  | cons x h ih =>
    rw [List.map_cons, List.nodup_cons] at hn
    rcases List.mem_cons.1 ha with ha | ha <;> rcases List.mem_cons.1 hb with hb | hb
    · rw [← ha] at hb
      injection hb with _ hb
      exact hb.symm
    · exact absurd (List.mem_map.2 ⟨(L, b), hb, by rw [← ha]⟩) hn.1
    · exact absurd (List.mem_map.2 ⟨(L, a), ha, by rw [← hb]⟩) hn.1
    · exact ih hn.2 ha hb
theorem addM_has : ∀ (h : List Row) (L : List Pr) (s : Sm), ∃ ss, (L, ss ++ [s]) ∈ addM h L s
  | [], L, s => ⟨[], List.mem_cons_self⟩
  | x :: h, L, s => by
    unfold addM
    by_cases hx : x.1 = L
    · rw [if_pos hx]
      exact ⟨x.2, by rw [← hx]; exact List.mem_cons_self⟩
    · rw [if_neg hx]
      obtain ⟨ss, h1⟩ := addM_has h L s
      exact ⟨ss, List.mem_cons_of_mem _ h1⟩
def LastI (h : List Row) (ps : List Pnt) (F : List UInt8 → Option Int) : Prop := ∀ L, LbOk L → ∀ ss, (L, ss) ∈ addMs h ps → match F (key L) with | some t => lastT ss = t | none => (L, ss) ∈ h
theorem LastI.start (h : List Row) : LastI h [] (fun _ => none) := fun _ _ _ hs => hs
theorem LastI.step {h : List Row} {ps : List Pnt} {F : List UInt8 → Option Int} (hI : LastI h ps F) {p : Pnt} (hp : LbOk p.1) (g : Gd (addM (addMs h ps) p.1 p.2)) : LastI h (ps ++ [p]) (updF F (key p.1) p.2.1) := by
  intro L hL ss hs
  rw [addMs_snoc] at hs
  by_cases e : L = p.1
  · subst e
    rw [updF_same]
    obtain ⟨ss', h1⟩ := addM_has (addMs h ps) p.1 p.2
    obtain rfl := nodup_row g.nd hs h1
    exact lastT_snoc _ _
  · rw [updF_ne _ _ (fun e' => e ((key_eq hL hp).1 e'))]
    rcases addM_mem hs with h1 | ⟨h1, _⟩
    · exact hI L hL ss h1
    · exact absurd h1 e
theorem LastI.ok {h : List Row} {ps : List Pnt} {F : List UInt8 → Option Int} (hI : LastI h ps F) (hg : Gd h) {p : Pnt} (h1 : Ok p.1) (h2 : TmOk p.2)
    (h3 : match F (key p.1) with | some t => t < p.2.1 | none => ∀ i ss, ixM h p.1 = some i → h[i]? = some (p.1, ss) → lastT ss < p.2.1) : OkP (addMs h ps) p := by
  refine ⟨h1, h2, fun ss hs => ?_⟩
  have h4 := hI p.1 (LbOk.of_ok h1) ss hs
  cases hF : F (key p.1) with
  | some t =>
    rw [hF] at h3 h4
    simp only at h3 h4
    rw [h4]; exact h3
  | none =>
    rw [hF] at h3 h4
    simp only at h3 h4
    cases hi : ixM h p.1 with
    | none => exact absurd rfl (ixM_none.1 hi _ h4)
    | some i =>
      obtain ⟨ss', h5⟩ := ixM_some hi
      obtain rfl := nodup_row hg.nd h4 (List.mem_of_getElem? h5)
      exact h3 i ss hi h5

def frsF (h : List Row) (ps : List Pnt) : List UInt8 → Option Int := fun k => if ixK h k = none then refF (addMs h ps) k else none
theorem frsF_nil (h : List Row) : frsF h [] = fun _ => none := by
  funext k
  unfold frsF refF
  show (if ixK h k = none then (ixK h k).map _ else none) = none
  split
  · rename_i e; rw [e]; rfl
  · rfl
theorem ixK_adds : ∀ (ps : List Pnt) (h : List Row) (k : List UInt8) (i : Nat), ixK h k = some i → ixK (addMs h ps) k = some i
  | [], _, _, _, e => e
  | p :: ps, h, k, i, e => by
    refine ixK_adds ps (addM h p.1 p.2) k i ?_
    cases hi : ixM h p.1 with
    | none => rw [addM_new _ hi, ixK_snoc, e]
    | some j => rw [ixK_labs (g := h) (by rw [addM_labs, if_neg (by rw [hi]; simp)])]; exact e
theorem frsF_new {h : List Row} {ps : List Pnt} {p : Pnt} (hh : ∀ r ∈ addMs h ps, LbOk r.1) (hL : LbOk p.1) (hn : ixM (addMs h ps) p.1 = none) (hn0 : ixK h (key p.1) = none) :
    updF (frsF h ps) (key p.1) (((addMs h ps).length : Int) + 1) = frsF h (ps ++ [p]) := by
  funext k
  have e := congrFun (refF_new (s := p.2) hh hL hn) k
  by_cases hk : k = key p.1
  · subst hk
    rw [updF_same] at e ⊢
    unfold frsF
    rw [if_pos hn0, addMs_snoc, ← e]
  · rw [updF_ne _ _ hk] at e ⊢
    unfold frsF
    rw [addMs_snoc, e]
theorem frsF_old {h : List Row} {ps : List Pnt} {p : Pnt} {i : Nat} (hi : ixM (addMs h ps) p.1 = some i) : frsF h (ps ++ [p]) = frsF h ps := by
  funext k
  unfold frsF
  rw [addMs_snoc, refF_old hi]
theorem ref_of {h : List Row} {ps : List Pnt} {p : Pnt} (hh : ∀ r ∈ h, LbOk r.1) (hh2 : ∀ r ∈ addMs h ps, LbOk r.1) (hL : LbOk p.1) :
    (∃ i, ixM h p.1 = some i ∧ ixM (addMs h ps) p.1 = some i) ∨ (ixM h p.1 = none ∧ ixK h (key p.1) = none ∧ frsF h ps (key p.1) = (ixM (addMs h ps) p.1).map fun i : Nat => ((i : Int) + 1)) := by
  cases hi : ixM h p.1 with
  | some i =>
    refine .inl ⟨i, rfl, ?_⟩
    have h1 : ixK h (key p.1) = some i := by rw [ixK_key hh hL, hi]
    have h2 := ixK_adds ps h (key p.1) i h1
    rwa [ixK_key hh2 hL] at h2
  | none =>
    have h1 : ixK h (key p.1) = none := by rw [ixK_key hh hL, hi]
    refine .inr ⟨rfl, h1, ?_⟩
    unfold frsF
    rw [if_pos h1, refF_key hh2 hL]
theorem Gd.lb {h : List Row} (g : Gd h) : ∀ r ∈ h, LbOk r.1 := fun r hr => LbOk.of_ok (g.ok r hr)
end Go.Bar.Hd

namespace Go.Bar.Wal
open Go.RowKit Go.Bar Go.Bar.Leb Go.Bar.Frm

structure Fi where
  s : List UInt8
  sure : Nat
abbrev Nm := List UInt8
abbrev Fs := List (Nm × Fi)
def fnd : Fs → Nm → Option Fi
  | [], _ => none
  | (m, f) :: r, n => if m = n then some f else fnd r n
def fput : Fs → Nm → Fi → Fs
  | [], n, f => [(n, f)]
  | (m, g) :: r, n, f => if m = n then (n, f) :: r else if n < m then (n, f) :: (m, g) :: r else (m, g) :: fput r n f
def fdel : Fs → Nm → Fs
  | [], _ => []
  | (m, g) :: r, n => if m = n then fdel r n else (m, g) :: fdel r n
theorem fnd_put (fs : Fs) (n : Nm) (f : Fi) (x : Nm) : fnd (fput fs n f) x = if x = n then some f else fnd fs x := by
  induction fs with
  | nil =>
    show (if n = x then some f else none) = _
    by_cases h : x = n
    · rw [if_pos h, if_pos h.symm]
    · rw [if_neg h, if_neg (fun e => h e.symm)]; rfl
  | cons p r ih =>
    obtain ⟨m, g⟩ := p
    unfold fput
    by_cases h1 : m = n
    · rw [if_pos h1]
      show (if n = x then some f else fnd r x) = if x = n then some f else if m = x then some g else fnd r x
      by_cases h : x = n
      · rw [if_pos h, if_pos h.symm]
      · rw [if_neg h, if_neg (fun e => h e.symm), if_neg (fun e => h (e.symm.trans h1))]
    · rw [if_neg h1]
      by_cases h2 : n < m
      · rw [if_pos h2]
        show (if n = x then some f else fnd ((m, g) :: r) x) = _
        by_cases h : x = n
        · rw [if_pos h, if_pos h.symm]
        · rw [if_neg h, if_neg (fun e => h e.symm)]
      · rw [if_neg h2]
        show (if m = x then some g else fnd (fput r n f) x) = if x = n then some f else if m = x then some g else fnd r x
        rw [ih]
        by_cases h : x = n
        · rw [if_pos h, if_pos h, if_neg (fun e => h1 (e.trans h))]
        · rw [if_neg h, if_neg h]
theorem fnd_del (fs : Fs) (n x : Nm) : fnd (fdel fs n) x = if x = n then none else fnd fs x := by
  induction fs with
  | nil => show none = _; split <;> rfl
  | cons p r ih =>
    obtain ⟨m, g⟩ := p
    unfold fdel
    by_cases h1 : m = n
    · rw [if_pos h1, ih]
      by_cases h : x = n
      · rw [if_pos h, if_pos h]
      · rw [if_neg h, if_neg h]
        show _ = if m = x then some g else fnd r x
        rw [if_neg (fun e => h (e.symm.trans h1))]
    · rw [if_neg h1]
      show (if m = x then some g else fnd (fdel r n) x) = if x = n then none else if m = x then some g else fnd r x
      rw [ih]
      by_cases h : x = n
      · rw [if_pos h, if_pos h, if_neg (fun e => h1 (e.trans h))]
      · rw [if_neg h, if_neg h]
def Srt (fs : Fs) : Prop := fs.Pairwise (fun a b => a.1 < b.1)
theorem put_mem {fs : Fs} {n : Nm} {f : Fi} {p : Nm × Fi} (h : p ∈ fput fs n f) : p = (n, f) ∨ p ∈ fs := by
  induction fs with
  | nil => exact .inl (List.mem_singleton.1 h)
  | cons q r ih =>
    obtain ⟨m, g⟩ := q
    unfold fput at h
    split at h
    · rcases List.mem_cons.1 h with h | h
      · exact .inl h
      · exact .inr (List.mem_cons_of_mem _ h)
    · split at h
      · rcases List.mem_cons.1 h with h | h
        · exact .inl h
        · exact .inr h
      · rcases List.mem_cons.1 h with h | h
        · exact .inr (h ▸ List.mem_cons_self ..)
        · rcases ih h with h | h
          · exact .inl h
          · exact .inr (List.mem_cons_of_mem _ h)
theorem del_sub (fs : Fs) (n : Nm) : (fdel fs n).Sublist fs := by
  induction fs with
  | nil => exact List.Sublist.refl _
  | cons q r ih =>
    obtain ⟨m, g⟩ := q
    unfold fdel
    split
    · exact ih.cons _
    · exact ih.cons_cons _
theorem nm_lt_of {a b : Nm} (h1 : a ≠ b) (h2 : ¬ a < b) : b < a := by
  rcases Std.lt_trichotomy a b with h | h | h
  · exact absurd h h2
  · exact absurd h h1
  · exact h
theorem Srt.put {fs : Fs} (h : Srt fs) (n : Nm) (f : Fi) : Srt (fput fs n f) := by
  induction fs with
  | nil => exact List.pairwise_singleton _ _
  | cons q r ih =>
    obtain ⟨m, g⟩ := q
    obtain ⟨h1, h2⟩ := List.pairwise_cons.1 h
    unfold fput
    by_cases e1 : m = n
    · rw [if_pos e1]
      exact List.pairwise_cons.2 ⟨fun p hp => e1 ▸ h1 p hp, h2⟩
    · rw [if_neg e1]
      by_cases e2 : n < m
      · rw [if_pos e2]
        refine List.pairwise_cons.2 ⟨fun p hp => ?_, h⟩
        rcases List.mem_cons.1 hp with hp | hp
        · rw [hp]; exact e2
        · exact List.lt_trans e2 (h1 p hp)
      · rw [if_neg e2]
        refine List.pairwise_cons.2 ⟨fun p hp => ?_, ih h2⟩
        rcases put_mem hp with hp | hp
        · rw [hp]; exact nm_lt_of (fun e => e1 e.symm) e2
        · exact h1 p hp
theorem Srt.del {fs : Fs} (h : Srt fs) (n : Nm) : Srt (fdel fs n) := h.sublist (del_sub fs n)
theorem fnd_none {fs : Fs} {n : Nm} (h : ∀ p ∈ fs, p.1 ≠ n) : fnd fs n = none := by
  induction fs with
  | nil => rfl
  | cons q r ih =>
    obtain ⟨m, g⟩ := q
    show (if m = n then some g else fnd r n) = none
    rw [if_neg (h _ (List.mem_cons_self ..))]
    exact ih fun p hp => h p (List.mem_cons_of_mem _ hp)
theorem fnd_mem {fs : Fs} {n : Nm} {f : Fi} (h : fnd fs n = some f) : (n, f) ∈ fs := by
  induction fs with
  | nil => cases h
  | cons q r ih =>
    obtain ⟨m, g⟩ := q
    have h : (if m = n then some g else fnd r n) = some f := h
    split at h
    · rename_i e
      injection h with h
      rw [e, h]; exact List.mem_cons_self ..
    · exact List.mem_cons_of_mem _ (ih h)
theorem Srt.fnd {fs : Fs} (h : Srt fs) {n : Nm} {f : Fi} (hm : (n, f) ∈ fs) : Wal.fnd fs n = some f := by
  induction fs with
  | nil => cases hm
  | cons q r ih =>
    obtain ⟨m, g⟩ := q
    obtain ⟨h1, h2⟩ := List.pairwise_cons.1 h
    show (if m = n then some g else Wal.fnd r n) = some f
    rcases List.mem_cons.1 hm with hm | hm
    · injection hm with e1 e2
      rw [if_pos e1.symm, e2]
    · have := h1 _ hm
      rw [if_neg (fun e => by rw [e] at this; exact List.lt_irrefl _ this)]
      exact ih h2 hm
theorem fnd_some_iff {fs : Fs} {n : Nm} : (fnd fs n).isSome = true ↔ n ∈ fs.map (·.1) := by
  constructor
  · intro h
    obtain ⟨f, hf⟩ := Option.isSome_iff_exists.1 h
    exact List.mem_map.2 ⟨_, fnd_mem hf, rfl⟩
  · intro h
    cases hc : fnd fs n with
    | some f => rfl
    | none =>
      exfalso
      induction fs with
      | nil => cases h
      | cons q r ih =>
        obtain ⟨m, g⟩ := q
        have hc : (if m = n then some g else fnd r n) = none := hc
        split at hc
        · cases hc
        · rename_i e
          rcases List.mem_cons.1 h with h | h
          · exact e h.symm
          · exact ih h hc

structure Fz where
  q : List (Int × Bool)
  now : Option (Int × Bool)
def Fz.hit (q : List (Int × Bool)) (a : Int) (d : Bool) : (Bool × Bool) × Fz := if 0 < a then ((true, true), ⟨q, some (a - 1, d)⟩) else ((false, d), ⟨q, none⟩)
def Fz.next (z : Fz) : (Bool × Bool) × Fz := match z.now with
  | some (a, d) => Fz.hit z.q a d
  | none => match z.q with
    | [] => ((true, true), z)
    | (a, d) :: q => Fz.hit q a d
def Fz.none_ : Fz := ⟨[], none⟩
def Fz.arm (z : Fz) (a : Int) (d : Bool) : Nat × Fz := if z.q.length < 16 then (0, ⟨z.q ++ [(max a 0, d)], z.now⟩) else (7, z)

structure Ds where
  fs : Fs
  room : Int
  used : Int
  fz : Fz
def Ds.free (d : Ds) : Int := d.room - d.used
def Ds.do_ (d : Ds) (act : Ds → Ds) : Nat × Ds :=
  ((if d.fz.next.1.1 = true then 0 else 8), if d.fz.next.1.2 = true then act { d with fz := d.fz.next.2 } else { d with fz := d.fz.next.2 })
def badName (n : Nm) : Prop := n = [] ∨ 40 < n.length
instance (n : Nm) : Decidable (badName n) := by unfold badName; exact inferInstance
def Fi.z : Fi := ⟨[], 0⟩
def Ds.append (d : Ds) (n : Nm) (s : List UInt8) : Nat × Ds :=
  if badName n then (1, d) else if d.free < s.length then (7, d)
  else d.do_ fun d => { d with fs := fput d.fs n ⟨((fnd d.fs n).getD Fi.z).s ++ s, ((fnd d.fs n).getD Fi.z).sure⟩, used := d.used + s.length }
def Ds.sync (d : Ds) (n : Nm) : Nat × Ds := match fnd d.fs n with
  | none => (5, d)
  | some f => d.do_ fun d => { d with fs := fput d.fs n ⟨f.s, f.s.length⟩ }
def Ds.truncate (d : Ds) (n : Nm) (k : Nat) : Nat × Ds := match fnd d.fs n with
  | none => (5, d)
  | some f => if f.s.length < k then (1, d) else d.do_ fun d => { d with fs := fput d.fs n ⟨f.s.take k, k⟩, used := d.used - (f.s.length - k : Nat) }
def Ds.read (d : Ds) (n : Nm) : List UInt8 × Nat := match fnd d.fs n with
  | none => ([], 5)
  | some f => (f.s, 0)
def Ds.list (d : Ds) (p : Nm) : List Nm := (d.fs.map (·.1)).filter fun n => p.isPrefixOf n
def keepOf (loose : Nat) (c : Option Int) : Nat := match c with
  | none => 0
  | some z => ((z.tmod (loose + 1) + loose + 1).tmod (loose + 1)).toNat
def crashF : Fs → List Int → Fs
  | [], _ => []
  | (n, f) :: r, cs => if f.s.length - f.sure = 0 then (n, f) :: crashF r cs
    else (n, ⟨f.s.take (f.sure + keepOf (f.s.length - f.sure) cs.head?), (f.s.take (f.sure + keepOf (f.s.length - f.sure) cs.head?)).length⟩) :: crashF r cs.tail
def lost : Fs → List Int → Nat
  | [], _ => 0
  | (_, f) :: r, cs => if f.s.length - f.sure = 0 then lost r cs
    else (f.s.length - f.sure - keepOf (f.s.length - f.sure) cs.head?) + lost r cs.tail
def Ds.crash (d : Ds) (cs : List Int) : Ds := { d with fs := crashF d.fs cs, used := d.used - (lost d.fs cs : Nat), fz := Fz.none_ }
end Go.Bar.Wal
