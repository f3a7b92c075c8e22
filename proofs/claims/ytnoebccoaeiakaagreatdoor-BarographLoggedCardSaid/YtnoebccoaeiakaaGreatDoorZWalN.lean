/-
  Layer 11 (wal): plain: the names of segments: no program in sight; no condition.
-/
import Derived.Test.YtnoebccoaeiakaaGreatDoorZFrmM
import Derived.Lib.ItoaNum
import Derived.Lib.AtoiAll

namespace Go.Bar.Wal
open Go.RowKit Go.Bar Go.Bar.Leb Go.Bar.Frm

def d10 : Nat → Nat → List UInt8
  | 0, _ => []
  | m + 1, a => d10 m (a / 10) ++ [UInt8.ofNat (48 + a % 10)]
theorem d10_len : ∀ (m a : Nat), (d10 m a).length = m
  | 0, _ => rfl
  | m + 1, a => by rw [d10, List.length_append, d10_len m]; rfl
theorem d10_zero : ∀ m : Nat, d10 m 0 = List.replicate m 48
  | 0 => rfl
  | m + 1 => by rw [d10, Nat.zero_div, d10_zero m, List.replicate_succ']; rfl
theorem pad_d10 : ∀ (m a : Nat), a < 10 ^ (m + 1) → (Lib.decDigits a).length ≤ m + 1 ∧ List.replicate (m + 1 - (Lib.decDigits a).length) 48 ++ Lib.decDigits a = d10 (m + 1) a
  | 0, a, h => by
    have h : a < 10 := by simpa using h
    rw [Lib.decDigits_one h]
    refine ⟨Nat.le_refl _, ?_⟩
    rw [d10, Nat.mod_eq_of_lt h]; rfl
  | m + 1, a, h => by
    by_cases h1 : a < 10
    · rw [Lib.decDigits_one h1]
      refine ⟨by simp, ?_⟩
      rw [d10, Nat.mod_eq_of_lt h1, Nat.div_eq_of_lt h1, d10_zero]; rfl
    · obtain ⟨h2, h3⟩ := pad_d10 m (a / 10) (by rw [Nat.pow_succ] at h; omega)
      rw [Lib.decDigits, dif_neg h1, List.length_append]
      refine ⟨by simp only [List.length_singleton]; omega, ?_⟩
      rw [d10, ← h3, List.append_assoc]
      simp only [List.length_singleton]
      rw [show m + 1 + 1 - ((Lib.decDigits (a / 10)).length + 1) = m + 1 - (Lib.decDigits (a / 10)).length by omega]
theorem dig_toNat (k : Nat) (h : k < 10) : (UInt8.ofNat (48 + k)).toNat = 48 + k := by
  rw [UInt8.toNat_ofNat']; omega
theorem lt_append_left {a b : List UInt8} (h : a < b) (hl : a.length = b.length) (x y : List UInt8) : a ++ x < b ++ y := by
  induction a generalizing b with
  | nil =>
    cases b with
    | nil => exact absurd h (List.lt_irrefl _)
    | cons => cases hl
  | cons c r ih =>
    cases b with
    | nil => cases hl
    | cons d s =>
      rw [List.cons_append, List.cons_append]
      rcases List.cons_lt_cons_iff.1 h with h1 | ⟨rfl, h2⟩
      · exact List.cons_lt_cons_iff.2 (.inl h1)
      · exact List.cons_lt_cons_iff.2 (.inr ⟨rfl, ih h2 (Nat.succ.inj hl)⟩)
theorem append_lt_append {a x y : List UInt8} (h : x < y) : a ++ x < a ++ y := by
  induction a with
  | nil => exact h
  | cons c r ih => exact List.cons_lt_cons_iff.2 (.inr ⟨rfl, ih⟩)
theorem d10_lt : ∀ (m a b : Nat), a < b → b < 10 ^ m → d10 m a < d10 m b
  | 0, a, b, h, hb => by simp at hb; omega
  | m + 1, a, b, h, hb => by
    rw [d10, d10]
    by_cases h1 : a / 10 = b / 10
    · rw [h1]
      refine append_lt_append (List.cons_lt_cons_iff.2 (.inl ?_))
      rw [UInt8.lt_iff_toNat_lt, dig_toNat _ (Nat.mod_lt _ (by decide)), dig_toNat _ (Nat.mod_lt _ (by decide))]
      omega
    · exact lt_append_left (d10_lt m _ _ (by omega) (by rw [Nat.pow_succ] at hb; omega)) (by rw [d10_len, d10_len]) _ _

def pre : Nm := [119, 97, 108, 45]
def segN (n : Nat) : Nm := pre ++ (List.replicate (8 - (Lib.decDigits n).length) 48 ++ Lib.decDigits n)
theorem segN_eq {n : Nat} (h : n < 100000000) : segN n = pre ++ d10 8 n := by unfold segN; rw [(pad_d10 7 n (by omega)).2]
theorem segN_len {n : Nat} (h : n < 100000000) : (segN n).length = 12 := by rw [segN_eq h, List.length_append, d10_len]; rfl
theorem segN_lt {a b : Nat} (h : a < b) (hb : b < 100000000) : segN a < segN b := by
  rw [segN_eq (by omega), segN_eq hb]
  exact append_lt_append (d10_lt 8 a b h (by omega))
theorem segN_inj {a b : Nat} (ha : a < 100000000) (hb : b < 100000000) (h : segN a = segN b) : a = b := by
  rcases Nat.lt_trichotomy a b with h1 | h1 | h1
  · have := segN_lt h1 hb; rw [h] at this; exact absurd this (List.lt_irrefl _)
  · exact h1
  · have := segN_lt h1 ha; rw [h] at this; exact absurd this (List.lt_irrefl _)
theorem segN_pre (n : Nat) : pre.isPrefixOf (segN n) = true := by
  rw [List.isPrefixOf_iff_prefix]; exact List.prefix_append _ _
theorem segN_good {n : Nat} (h : n < 100000000) : ¬ badName (segN n) := by
  rintro (h1 | h1)
  · have := segN_len h; rw [h1] at this; cases this
  · have := segN_len h; omega

def numOf (l : List UInt8) : Nat := match Lib.atoiAll l with
  | .ok v => if 1 ≤ v ∧ v ≤ 1099511627776 then v.toNat else 0
  | _ => 0
def trim (s : Nm) : List UInt8 := if pre.isPrefixOf s then s.drop 4 else s
def numN (s : Nm) : Nat := if segN (numOf (trim s)) = s then numOf (trim s) else 0
theorem parse_snoc : ∀ (l : List UInt8) (acc u k : Nat), Lib.parseUint10 acc l = .ok u → k < 10 → u < 100000000000 → Lib.parseUint10 acc (l ++ [UInt8.ofNat (48 + k)]) = .ok (u * 10 + k)
  | [], acc, u, k, h, hk, hu => by
    simp only [Lib.parseUint10] at h
    injection h with h
    subst h
    show Lib.parseUint10 acc [UInt8.ofNat (48 + k)] = _
    simp only [Lib.parseUint10, dig_toNat k hk]
    rw [if_pos (by omega), if_neg (by omega), if_neg (by omega), show 48 + k - 48 = k by omega]
  | c :: r, acc, u, k, h, hk, hu => by
    rw [List.cons_append]
    simp only [Lib.parseUint10] at h ⊢
    split at h
    · rename_i h1
      rw [if_pos h1]
      split at h
      · cases h
      · rename_i h2
        rw [if_neg h2]
        split at h
        · cases h
        · rename_i h3
          rw [if_neg h3]
          exact parse_snoc r _ u k h hk hu
    · cases h
theorem parse_d10 : ∀ (m a : Nat), m ≤ 8 → a < 10 ^ m → Lib.parseUint10 0 (d10 m a) = .ok a
  | 0, a, _, h => by
    have : a = 0 := by simpa using h
    rw [this]; rfl
  | m + 1, a, hm, h => by
    rw [d10]
    have h1 : a / 10 < 10 ^ m := by rw [Nat.pow_succ] at h; omega
    have h2 : 10 ^ m ≤ 10 ^ 8 := Nat.pow_le_pow_right (by decide) (by omega)
    rw [parse_snoc _ _ _ _ (parse_d10 m (a / 10) (by omega) h1) (Nat.mod_lt _ (by decide)) (by omega), show a / 10 * 10 + a % 10 = a by omega]
theorem atoi_d10 {a : Nat} (h : a < 100000000) : Lib.atoiAll (d10 8 a) = .ok (a : Int) := by
  have hp := parse_d10 8 a (Nat.le_refl _) (by omega)
  have hl := d10_len 8 a
  cases hc : d10 8 a with
  | nil => rw [hc] at hl; cases hl
  | cons c r =>
    rw [hc] at hp
    have hd : 48 ≤ c.toNat ∧ c.toNat ≤ 57 := by
      simp only [Lib.parseUint10] at hp
      split at hp
      · assumption
      · cases hp
    unfold Lib.atoiAll
    simp only [show ¬ (c.toNat = 43 ∨ c.toNat = 45) by omega, if_false]
    unfold Lib.parseMag
    rw [if_neg (by simp), hp]
    simp only [show ¬ c.toNat = 45 by omega, not_false_eq_true, true_and, false_and, if_false]
    rw [if_neg (by omega)]
theorem trim_seg (n : Nat) (h : n < 100000000) : trim (segN n) = d10 8 n := by
  unfold trim
  rw [if_pos (segN_pre n), segN_eq h]; rfl
theorem numN_seg {n : Nat} (h1 : 1 ≤ n) (h : n < 100000000) : numN (segN n) = n := by
  have e : numOf (trim (segN n)) = n := by
    rw [trim_seg n h]
    unfold numOf
    rw [atoi_d10 h]
    show (if (1 : Int) ≤ (n : Int) ∧ (n : Int) ≤ 1099511627776 then _ else 0) = n
    rw [if_pos (by omega)]; rfl
  unfold numN
  rw [e, if_pos rfl]
end Go.Bar.Wal

namespace Go.Bar.Wal
open Go.RowKit Go.Bar Go.Bar.Leb Go.Bar.Frm

theorem laid_append (a b : List Rc) : laid (a ++ b) = laid a ++ laid b := List.flatMap_append
theorem whole_take : ∀ (b : List Rc) (k : Nat), (whole b k).2 = (laid (b.take (whole b k).1)).length
  | [], _ => rfl
  | r :: b, k => by
    rw [whole]
    split
    · simp only
      rw [List.take_succ_cons, laid_cons, List.length_append, whole_take b]; omega
    · rfl
theorem whole_append : ∀ (a b : List Rc) (k : Nat), whole (a ++ b) ((laid a).length + k) = (a.length + (whole b k).1, (laid a).length + (whole b k).2)
  | [], b, k => by simp [laid]
  | r :: a, b, k => by
    rw [List.cons_append, whole, laid_cons, List.length_append, if_pos (by omega), show (rec r).length + (laid a).length + k - (rec r).length = (laid a).length + k by omega, whole_append a b k]
    simp only [List.length_cons, Prod.mk.injEq]
    omega
def Tail (b : List Rc) (t : List UInt8) : Prop := ∃ k, k ≤ (laid b).length ∧ t = (laid b).take k
theorem Tail.nil (b : List Rc) : Tail b [] := ⟨0, Nat.zero_le _, rfl⟩
theorem Tail.all (b : List Rc) : Tail b (laid b) := ⟨_, Nat.le_refl _, (List.take_length ..).symm⟩
theorem Tail.take {b : List Rc} {t : List UInt8} (h : Tail b t) (j : Nat) : Tail b (t.take j) := by
  obtain ⟨k, hk, rfl⟩ := h
  exact ⟨min j k, by omega, List.take_take ..⟩
theorem Tail.some {b : List Rc} (j : Nat) : Tail b (laid (b.take j)) := by
  refine ⟨(laid (b.take j)).length, ?_, ?_⟩
  · have h := congrArg (fun l => (laid l).length) (List.take_append_drop j b)
    simp only [laid_append, List.length_append] at h
    omega
  · have h := congrArg laid (List.take_append_drop j b)
    rw [laid_append] at h
    rw [← h, List.take_left]
theorem torn {a b : List Rc} {t : List UInt8} (ha : ∀ r ∈ a, r.2.length ≤ 1048576) (hb : ∀ r ∈ b, r.2.length ≤ 1048576) (h : Tail b t) :
    ∃ j, recs (laid a ++ t) = a ++ b.take j ∧ (laid a ++ t).length = (laid (a ++ b.take j)).length + (left (laid a ++ t)).length ∧ (laid a ++ t).take (laid (a ++ b.take j)).length = laid (a ++ b.take j) := by
  obtain ⟨k, hk, rfl⟩ := h
  have e : laid a ++ (laid b).take k = (laid (a ++ b)).take ((laid a).length + k) := by
    rw [laid_append, List.take_length_add_append]
  have hr := recs_torn (a ++ b) ((laid a).length + k) (fun r hr => (List.mem_append.1 hr).elim (ha r) (hb r)) (by rw [laid_append, List.length_append]; omega)
  rw [whole_append, whole_take] at hr
  simp only at hr
  have hw := whole_le b k
  have ht : (a ++ b).take (a.length + (whole b k).1) = a ++ b.take (whole b k).1 := by rw [List.take_length_add_append]
  rw [ht] at hr
  refine ⟨(whole b k).1, by rw [e]; exact hr.1, ?_, ?_⟩
  · have h2 := hr.2
    have l1 : (laid (a ++ b)).length = (laid a).length + (laid b).length := by rw [laid_append, List.length_append]
    have l2 : (laid (a ++ b.take (whole b k).1)).length = (laid a).length + (laid (b.take (whole b k).1)).length := by rw [laid_append, List.length_append]
    rw [e, List.length_take]
    omega
  · rw [e]
    have h2 := hr.2
    have h3 : laid (a ++ b) = laid (a ++ b.take (whole b k).1) ++ laid (b.drop (whole b k).1) := by
      rw [← laid_append, List.append_assoc, List.take_append_drop]
    rw [List.take_take, h3]
    have h4 : (laid (a ++ b.take (whole b k).1)).length ≤ (laid a).length + k := by
      rw [laid_append, List.length_append]; omega
    rw [Nat.min_eq_left h4, List.take_left]

theorem hit_works (q : List (Int × Bool)) (a : Int) (b : Bool) : (Fz.hit q a b).1.1 = true → (Fz.hit q a b).1.2 = true := by
  unfold Fz.hit
  split
  · exact fun _ => rfl
  · exact fun h => (by cases h)
theorem next_works (z : Fz) : z.next.1.1 = true → z.next.1.2 = true := by
  unfold Fz.next
  split
  · exact hit_works _ _ _
  · split
    · exact fun _ => rfl
    · exact hit_works _ _ _
theorem do_cases (d : Ds) (act : Ds → Ds) : ((d.do_ act).1 = 0 ∧ (d.do_ act).2 = act { d with fz := d.fz.next.2 }) ∨ ((d.do_ act).1 = 8 ∧ ((d.do_ act).2 = act { d with fz := d.fz.next.2 } ∨ (d.do_ act).2 = { d with fz := d.fz.next.2 })) := by
  unfold Ds.do_
  by_cases h : d.fz.next.1.1 = true
  · rw [if_pos h, if_pos (next_works _ h)]; exact .inl ⟨rfl, rfl⟩
  · rw [if_neg h]
    by_cases h2 : d.fz.next.1.2 = true
    · rw [if_pos h2]; exact .inr ⟨rfl, .inl rfl⟩
    · rw [if_neg h2]; exact .inr ⟨rfl, .inr rfl⟩
theorem do_none (d : Ds) (act : Ds → Ds) (h : d.fz = Fz.none_) : d.do_ act = (0, act d) := by
  unfold Ds.do_
  obtain ⟨fs, room, used, fz⟩ := d
  simp only at h
  subst h
  rfl

structure LI (fs : Fs) (ns : List Nat) (A : Nat → List Rc) (t : List UInt8) (su : Nat) : Prop where
  srt : Srt fs
  ris : ns.Pairwise (· < ·)
  rng : ∀ n ∈ ns, 1 ≤ n ∧ n < 100000000
  keys : ∀ x, pre.isPrefixOf x = true → (fnd fs x).isSome = true → ∃ n ∈ ns, x = segN n
  full : ∀ n ∈ ns, ns.getLast? ≠ some n → fnd fs (segN n) = some ⟨laid (A n), (laid (A n)).length⟩
  last : ∀ n, ns.getLast? = some n → fnd fs (segN n) = some ⟨laid (A n) ++ t, (laid (A n)).length + su⟩
  le : su ≤ t.length
  emp : ns = [] → t = []
  dat : ∀ n ∈ ns, ∀ r ∈ A n, r.2.length ≤ 1048576
  sok : ∀ x f, fnd fs x = some f → f.sure ≤ f.s.length
theorem srt_unique {a b : List Nm} (ha : a.Pairwise (· < ·)) (hb : b.Pairwise (· < ·)) (h : ∀ x, x ∈ a ↔ x ∈ b) : a = b := by
  induction a generalizing b with
  | nil =>
    cases b with
    | nil => rfl
    | cons y r => exact absurd ((h y).2 (List.mem_cons_self ..)) (by simp)
  | cons x a ih =>
    cases b with
    | nil => exact absurd ((h x).1 (List.mem_cons_self ..)) (by simp)
    | cons y b =>
      obtain ⟨ha1, ha2⟩ := List.pairwise_cons.1 ha
      obtain ⟨hb1, hb2⟩ := List.pairwise_cons.1 hb
      have hxy : x = y := by
        rcases List.mem_cons.1 ((h x).1 (List.mem_cons_self ..)) with e | e
        · exact e
        · rcases List.mem_cons.1 ((h y).2 (List.mem_cons_self ..)) with e2 | e2
          · exact e2.symm
          · exact absurd (List.lt_trans (hb1 x e) (ha1 y e2)) (List.lt_irrefl _)
      subst hxy
      rw [ih ha2 hb2 fun z => ?_]
      constructor
      · intro hz
        rcases List.mem_cons.1 ((h z).1 (List.mem_cons_of_mem _ hz)) with e | e
        · exact absurd (e ▸ ha1 z hz) (List.lt_irrefl _)
        · exact e
      · intro hz
        rcases List.mem_cons.1 ((h z).2 (List.mem_cons_of_mem _ hz)) with e | e
        · exact absurd (e ▸ hb1 z hz) (List.lt_irrefl _)
        · exact e
theorem LI.has {fs : Fs} {ns : List Nat} {A : Nat → List Rc} {t : List UInt8} {su : Nat} (h : LI fs ns A t su) {n : Nat} (hn : n ∈ ns) : ∃ f, fnd fs (segN n) = some f := by
  by_cases e : ns.getLast? = some n
  · exact ⟨_, h.last n e⟩
  · exact ⟨_, h.full n hn e⟩
theorem LI.list {d : Ds} {ns : List Nat} {A : Nat → List Rc} {t : List UInt8} {su : Nat} (h : LI d.fs ns A t su) : d.list pre = ns.map segN := by
  refine srt_unique ?_ ?_ fun x => ?_
  · unfold Ds.list
    exact ((List.pairwise_map.2 h.srt).sublist List.filter_sublist)
  · rw [List.pairwise_map]
    exact h.ris.imp_of_mem fun ha hb hab => segN_lt hab (h.rng _ hb).2
  · unfold Ds.list
    rw [List.mem_filter, ← fnd_some_iff, List.mem_map]
    constructor
    · rintro ⟨h1, h2⟩
      obtain ⟨n, hn, e⟩ := h.keys x h2 h1
      exact ⟨n, hn, e.symm⟩
    · rintro ⟨n, hn, rfl⟩
      obtain ⟨f, hf⟩ := h.has hn
      exact ⟨by rw [hf]; rfl, segN_pre n⟩
end Go.Bar.Wal

namespace Go.Bar.Wal
open Go.RowKit Go.Bar Go.Bar.Leb Go.Bar.Frm

section
variable {fs fs' : Fs} {ns : List Nat} {A : Nat → List Rc} {t : List UInt8} {su : Nat}
theorem LI.of (h : LI fs ns A t su) (hs : Srt fs') (he : ∀ x, pre.isPrefixOf x = true → fnd fs' x = fnd fs x) (hk : ∀ x f, fnd fs' x = some f → f.sure ≤ f.s.length) : LI fs' ns A t su :=
  ⟨hs, h.ris, h.rng, fun x hp hx => h.keys x hp (by rw [← he x hp]; exact hx), fun n hn hl => (he _ (segN_pre n)).trans (h.full n hn hl), fun n hl => (he _ (segN_pre n)).trans (h.last n hl), h.le, h.emp, h.dat, hk⟩
theorem put_sok (h : ∀ x f, fnd fs x = some f → f.sure ≤ f.s.length) {n : Nm} {g : Fi} (hg : g.sure ≤ g.s.length) : ∀ x f, fnd (fput fs n g) x = some f → f.sure ≤ f.s.length := fun x f hf => by
  rw [fnd_put] at hf
  split at hf
  · injection hf with hf; rw [← hf]; exact hg
  · exact h x f hf
theorem LI.other (h : LI fs ns A t su) {n : Nm} (hn : pre.isPrefixOf n = false) {g : Fi} (hg : g.sure ≤ g.s.length) : LI (fput fs n g) ns A t su :=
  h.of (h.srt.put n g) (fun x hx => by rw [fnd_put, if_neg (fun e => by rw [e, hn] at hx; cases hx)]) (put_sok h.sok hg)
theorem LI.same (h : LI fs ns A t su) {n : Nm} {g : Fi} (hg : fnd fs n = some g) : LI (fput fs n g) ns A t su :=
  h.of (h.srt.put n g) (fun x _ => by
    rw [fnd_put]
    split
    · rename_i e; rw [e]; exact hg.symm
    · rfl) (put_sok h.sok (h.sok _ _ hg))
theorem LI.seg_ne (h : LI fs ns A t su) {m n : Nat} (hm : m ∈ ns) (hn : n ∈ ns) (hne : m ≠ n) : segN m ≠ segN n := fun e => hne (segN_inj (h.rng m hm).2 (h.rng n hn).2 e)
theorem last_mem' {n : Nat} (h : ns.getLast? = some n) : n ∈ ns := List.mem_of_getLast? h
theorem LI.setLast (h : LI fs ns A t su) {n : Nat} (hn : ns.getLast? = some n) {t' : List UInt8} {su' : Nat} (hl : su' ≤ t'.length) : LI (fput fs (segN n) ⟨laid (A n) ++ t', (laid (A n)).length + su'⟩) ns A t' su' := by
  have hm := last_mem' hn
  refine ⟨h.srt.put _ _, h.ris, h.rng, fun x hp hx => ?_, fun k hk hl' => ?_, fun k hk => ?_, hl, fun e => (by rw [e] at hn; cases hn), h.dat, put_sok h.sok (by simp only [List.length_append]; omega)⟩
  · rw [fnd_put] at hx
    split at hx
    · rename_i e; exact ⟨n, hm, e⟩
    · exact h.keys x hp hx
  · rw [fnd_put, if_neg (h.seg_ne hk hm (fun e => hl' (by rw [e]; exact hn)))]
    exact h.full k hk hl'
  · have e : n = k := by rw [hn] at hk; exact Option.some.inj hk
    subst e
    rw [fnd_put, if_pos rfl]
def updA (A : Nat → List Rc) (m : Nat) (B : List Rc) : Nat → List Rc := fun n => if n = m then B else A n
theorem updA_ne {A : Nat → List Rc} {m n : Nat} {B : List Rc} (h : n ≠ m) : updA A m B n = A n := if_neg h
theorem updA_self (A : Nat → List Rc) (m : Nat) (B : List Rc) : updA A m B m = B := if_pos rfl
theorem LI.new (h : LI fs ns A [] su) {m : Nat} (hm : ∀ n ∈ ns, n < m) (h1 : 1 ≤ m) (h2 : m < 100000000) {B : List Rc} (hB : ∀ r ∈ B, r.2.length ≤ 1048576) {t' : List UInt8} {su' : Nat} (hl : su' ≤ t'.length)
    (hs : Srt fs') (hf : ∀ x, pre.isPrefixOf x = true → fnd fs' x = if x = segN m then some ⟨laid B ++ t', (laid B).length + su'⟩ else fnd fs x) (hk : ∀ x f, fnd fs' x = some f → f.sure ≤ f.s.length) :
    LI fs' (ns ++ [m]) (updA A m B) t' su' := by
  have hlast : (ns ++ [m]).getLast? = some m := by simp
  have hsu : su = 0 := by have := h.le; simpa using this
  have hwas : ∀ n ∈ ns, fnd fs (segN n) = some ⟨laid (A n), (laid (A n)).length⟩ := fun n hn => by
    by_cases e : ns.getLast? = some n
    · rw [h.last n e, hsu, List.append_nil]; rfl
    · exact h.full n hn e
  refine ⟨hs, ?_, fun n hn => ?_, fun x hp hx => ?_, fun n hn hl' => ?_, fun n hn => ?_, hl, fun e => by simp at e, fun n hn r hr => ?_, hk⟩
  · rw [List.pairwise_append]
    refine ⟨h.ris, List.pairwise_singleton _ _, fun a ha b hb => ?_⟩
    obtain rfl := List.mem_singleton.1 hb
    exact hm a ha
  · rcases List.mem_append.1 hn with hn | hn
    · exact h.rng n hn
    · obtain rfl := List.mem_singleton.1 hn
      exact ⟨h1, h2⟩
  · rw [hf x hp] at hx
    split at hx
    · rename_i e; exact ⟨m, by simp, e⟩
    · obtain ⟨n, hn, e⟩ := h.keys x hp hx
      exact ⟨n, List.mem_append_left _ hn, e⟩
  · rcases List.mem_append.1 hn with hn | hn
    · have hlt := hm n hn
      rw [hf _ (segN_pre n), if_neg (fun e => by have := segN_inj (h.rng n hn).2 h2 e; omega), updA_ne (by omega)]
      exact hwas n hn
    · obtain rfl := List.mem_singleton.1 hn
      exact absurd hlast hl'
  · rw [hlast] at hn
    obtain rfl := Option.some.inj hn
    rw [hf _ (segN_pre m), if_pos rfl, updA_self]
  · rcases List.mem_append.1 hn with hn | hn
    · rw [updA_ne (by have := hm n hn; omega)] at hr
      exact h.dat n hn r hr
    · obtain rfl := List.mem_singleton.1 hn
      rw [updA_self] at hr
      exact hB r hr

theorem crash_names (fs : Fs) (cs : List Int) : (crashF fs cs).map (·.1) = fs.map (·.1) := by
  induction fs generalizing cs with
  | nil => rfl
  | cons p r ih =>
    obtain ⟨n, f⟩ := p
    rw [crashF]
    split
    · rw [List.map_cons, ih]; rfl
    · rw [List.map_cons, ih]; rfl
theorem crash_fnd (fs : Fs) (hk : ∀ p ∈ fs, p.2.sure ≤ p.2.s.length) (cs : List Int) (x : Nm) : match fnd fs x with
    | none => fnd (crashF fs cs) x = none
    | some f => ∃ k, f.sure ≤ k ∧ fnd (crashF fs cs) x = some ⟨f.s.take k, (f.s.take k).length⟩ := by
  induction fs generalizing cs with
  | nil => exact rfl
  | cons p r ih =>
    obtain ⟨n, f⟩ := p
    have hp := hk _ (List.mem_cons_self ..)
    have ih := fun cs => ih (fun q hq => hk q (List.mem_cons_of_mem _ hq)) cs
    rw [crashF]
    by_cases hl : f.s.length - f.sure = 0
    · rw [if_pos hl]
      show match (if n = x then some f else fnd r x) with
        | none => (if n = x then some f else fnd (crashF r cs) x) = none
        | some g => ∃ k, g.sure ≤ k ∧ (if n = x then some f else fnd (crashF r cs) x) = some ⟨g.s.take k, (g.s.take k).length⟩
      by_cases e : n = x
      · rw [if_pos e, if_pos e]
        refine ⟨f.s.length, hp, ?_⟩
        rw [List.take_length]
        have h1 : f.sure = f.s.length := by simp only at hp hl; omega
        rw [← h1]
      · rw [if_neg e, if_neg e]; exact ih cs
    · rw [if_neg hl]
      obtain ⟨k, hkk⟩ : ∃ k, k = keepOf (f.s.length - f.sure) cs.head? := ⟨_, rfl⟩
      rw [← hkk]
      show match (if n = x then some f else fnd r x) with
        | none => (if n = x then some (⟨f.s.take (f.sure + k), (f.s.take (f.sure + k)).length⟩ : Fi) else fnd (crashF r cs.tail) x) = none
        | some g => ∃ j, g.sure ≤ j ∧ (if n = x then some (⟨f.s.take (f.sure + k), (f.s.take (f.sure + k)).length⟩ : Fi) else fnd (crashF r cs.tail) x) = some ⟨g.s.take j, (g.s.take j).length⟩
      by_cases e : n = x
      · rw [if_pos e, if_pos e]
        exact ⟨f.sure + k, Nat.le_add_right _ _, rfl⟩
      · rw [if_neg e, if_neg e]; exact ih cs.tail
theorem fs_sok (h : Srt fs) (hk : ∀ x f, fnd fs x = some f → f.sure ≤ f.s.length) : ∀ p ∈ fs, p.2.sure ≤ p.2.s.length := fun p hp => hk p.1 p.2 (h.fnd hp)
theorem LI.crash (h : LI fs ns A t su) (cs : List Int) : ∃ k, su ≤ k ∧ LI (crashF fs cs) ns A (t.take k) (t.take k).length := by
  have hc := crash_fnd fs (fs_sok h.srt h.sok) cs
  have hsrt : Srt (crashF fs cs) := by
    have := List.pairwise_map.2 h.srt
    rw [← crash_names fs cs] at this
    exact List.pairwise_map.1 this
  have hkeys : ∀ x, pre.isPrefixOf x = true → (fnd (crashF fs cs) x).isSome = true → ∃ n ∈ ns, x = segN n := fun x hp hx => by
    refine h.keys x hp ?_
    have h1 := hc x
    cases hf : fnd fs x with
    | some f => rfl
    | none => rw [hf] at h1; rw [h1] at hx; cases hx
  have hfull : ∀ n ∈ ns, ns.getLast? ≠ some n → fnd (crashF fs cs) (segN n) = some ⟨laid (A n), (laid (A n)).length⟩ := fun n hn hl => by
    have h1 := hc (segN n)
    rw [h.full n hn hl] at h1
    obtain ⟨k, hk, e⟩ := h1
    rw [e, List.take_of_length_le hk]
  have hsok : ∀ x f, fnd (crashF fs cs) x = some f → f.sure ≤ f.s.length := fun x f hf => by
    have h1 := hc x
    cases hg : fnd fs x with
    | none => rw [hg] at h1; rw [h1] at hf; cases hf
    | some g =>
      rw [hg] at h1
      obtain ⟨k, _, e⟩ := h1
      rw [e] at hf
      injection hf with hf
      rw [← hf]; exact Nat.le_refl _
  rcases hl : ns.getLast? with _ | n
  · have hn := List.getLast?_eq_none_iff.1 hl
    have ht := h.emp hn
    refine ⟨su, Nat.le_refl _, hsrt, h.ris, h.rng, hkeys, hfull, fun n hn => ?_, Nat.le_refl _, fun _ => by rw [ht, List.take_nil], h.dat, hsok⟩
    rw [hl] at hn; cases hn
  · have h1 := hc (segN n)
    rw [h.last n hl] at h1
    obtain ⟨k, hk, e⟩ := h1
    have hk : (laid (A n)).length + su ≤ k := hk
    refine ⟨k - (laid (A n)).length, by omega, hsrt, h.ris, h.rng, hkeys, hfull, fun m hm => ?_, Nat.le_refl _, fun e => (by rw [e] at hl; cases hl), h.dat, hsok⟩
    rw [hl] at hm
    obtain rfl := Option.some.inj hm
    have e2 : (laid (A n) ++ t).take k = laid (A n) ++ t.take (k - (laid (A n)).length) := by rw [List.take_append, List.take_of_length_le (by omega)]
    rw [e]
    show some (⟨(laid (A n) ++ t).take k, ((laid (A n) ++ t).take k).length⟩ : Fi) = _
    rw [e2, List.length_append]
end
end Go.Bar.Wal

namespace Go.Bar.Wal
open Go.RowKit Go.Bar Go.Bar.Leb Go.Bar.Frm

structure Lg where
  limit : Int
  seg : Nat
  size : Nat
  broken : Bool
def since (l : List Rc) : List Rc := (l.reverse.takeWhile (fun r => r.1 != 255)).reverse
theorem since_append (a : List Rc) {b : List Rc} (h : ∀ r ∈ b, r.1 ≠ 255) : since (a ++ b) = since a ++ b := by
  unfold since
  rw [List.reverse_append, List.takeWhile_append_of_pos (fun r hr => by simpa using h r (List.mem_reverse.1 hr)), List.reverse_append, List.reverse_reverse]
theorem since_reset (a : List Rc) (d : List UInt8) {b : List Rc} (h : ∀ r ∈ b, r.1 ≠ 255) : since (a ++ (255, d) :: b) = b := by
  unfold since
  rw [List.reverse_append, List.reverse_cons, List.append_assoc, List.takeWhile_append_of_pos (fun r hr => by simpa using h r (List.mem_reverse.1 hr))]
  simp
def segsOf (d : Ds) : List Nat := (((d.list pre).map numN).filter (fun n => decide (0 < n))).mergeSort (fun a b => decide (a ≤ b))
theorem LI.segs {d : Ds} {ns : List Nat} {A : Nat → List Rc} {t : List UInt8} {su : Nat} (h : LI d.fs ns A t su) : segsOf d = ns := by
  unfold segsOf
  rw [h.list, List.map_map]
  have h1 : ns.map (numN ∘ segN) = ns := by
    have : ∀ l : List Nat, (∀ n ∈ l, n ∈ ns) → l.map (numN ∘ segN) = l := fun l hl => by
      induction l with
      | nil => rfl
      | cons x l ih =>
        have hx := h.rng x (hl x (List.mem_cons_self ..))
        rw [List.map_cons, ih fun n hn => hl n (List.mem_cons_of_mem _ hn)]
        show numN (segN x) :: l = _
        rw [numN_seg hx.1 hx.2]
    exact this ns fun _ h => h
  rw [h1, List.filter_eq_self.2 (fun n hn => decide_eq_true (by have := (h.rng n hn).1; omega))]
  exact List.mergeSort_of_pairwise (h.ris.imp fun hab => by simpa using Nat.le_of_lt hab)

def openS (d : Ds) (n : Nat) : Nat × Ds := if (d.read (segN n)).1.length - (left (d.read (segN n)).1).length < (d.read (segN n)).1.length then d.truncate (segN n) ((d.read (segN n)).1.length - (left (d.read (segN n)).1).length) else d.sync (segN n)
def openL : List Nat → Ds → List Rc → Nat → Nat → Nat × Ds × List Rc × Nat × Nat
  | [], d, all, seg, size => (0, d, all, seg, size)
  | n :: ns, d, all, _, _ =>
    if (d.read (segN n)).2 ≠ 0 then ((d.read (segN n)).2, d, [], 0, 0)
    else if (openS d n).1 ≠ 0 then ((openS d n).1, (openS d n).2, [], 0, 0)
    else openL ns (openS d n).2 (all ++ recs (d.read (segN n)).1) n ((d.read (segN n)).1.length - (left (d.read (segN n)).1).length)
def wOpen (d : Ds) (limit : Int) : Nat × Ds × Lg × List Rc :=
  if (openL (segsOf d) d [] 1 0).1 ≠ 0 then ((openL (segsOf d) d [] 1 0).1, (openL (segsOf d) d [] 1 0).2.1, ⟨0, 0, 0, false⟩, [])
  else (0, (openL (segsOf d) d [] 1 0).2.1, ⟨max limit 1, (openL (segsOf d) d [] 1 0).2.2.2.1, (openL (segsOf d) d [] 1 0).2.2.2.2, false⟩, since (openL (segsOf d) d [] 1 0).2.2.1)

structure Near (d : Ds) (r : Nat × Ds) : Prop where
  room : r.2.room = d.room
  used : r.2.used ≤ d.used
  err : r.1 = 0 ∨ r.1 = 8
  calm : d.fz = Fz.none_ → r.1 = 0 ∧ r.2.fz = Fz.none_
theorem Near.of_do {d : Ds} {act : Ds → Ds} (h1 : ∀ d, (act d).room = d.room) (h2 : ∀ d, (act d).used ≤ d.used) (h3 : ∀ d, (act d).fz = d.fz) : Near d (d.do_ act) := by
  refine ⟨?_, ?_, ?_, fun h => ?_⟩
  · rcases do_cases d act with ⟨_, e⟩ | ⟨_, e | e⟩ <;> rw [e]
    · exact h1 _
    · exact h1 _
  · rcases do_cases d act with ⟨_, e⟩ | ⟨_, e | e⟩ <;> rw [e]
    · exact h2 _
    · exact h2 _
    · exact Int.le_refl _
  · rcases do_cases d act with ⟨e, _⟩ | ⟨e, _⟩
    · exact .inl e
    · exact .inr e
  · rw [do_none d act h]; exact ⟨rfl, (h3 d).trans h⟩
theorem do_fs {d : Ds} {act : Ds → Ds} {P : Fs → Prop} (h0 : P d.fs) (h1 : P (act { d with fz := d.fz.next.2 }).fs) : P (d.do_ act).2.fs := by
  rcases do_cases d act with ⟨_, e⟩ | ⟨_, e | e⟩ <;> rw [e]
  · exact h1
  · exact h1
  · exact h0

section
variable {d : Ds} {ns : List Nat} {A : Nat → List Rc} {b : List Rc} {t : List UInt8} {su : Nat}
theorem small_recs {a : List Rc} (h : ∀ r ∈ a, r.2.length ≤ 1048576) : recs (laid a) = a ∧ left (laid a) = [] := by
  have := recs_laid a [] h next_nil
  rwa [List.append_nil] at this
theorem open_full (h : LI d.fs ns A t su) {n : Nat} (hn : n ∈ ns) (hl : ns.getLast? ≠ some n) :
    d.read (segN n) = (laid (A n), 0) ∧ Near d (openS d n) ∧ LI (openS d n).2.fs ns A t su := by
  have hf := h.full n hn hl
  have hr : d.read (segN n) = (laid (A n), 0) := by unfold Ds.read; rw [hf]
  have hs := small_recs (h.dat n hn)
  have ho : openS d n = d.do_ fun d => { d with fs := fput d.fs (segN n) ⟨laid (A n), (laid (A n)).length⟩ } := by
    unfold openS
    rw [hr]
    simp only
    rw [hs.2, List.length_nil, Nat.sub_zero, if_neg (Nat.lt_irrefl _)]
    unfold Ds.sync
    rw [hf]
  rw [ho]
  exact ⟨hr, Near.of_do (fun _ => rfl) (fun _ => Int.le_refl _) (fun _ => rfl), do_fs (P := fun fs => LI fs ns A t su) h (h.same hf)⟩
theorem open_last (h : LI d.fs ns A t su) (ht : Tail b t) (hb : ∀ r ∈ b, r.2.length ≤ 1048576) {n : Nat} (hn : ns.getLast? = some n) :
    ∃ j, d.read (segN n) = (laid (A n) ++ t, 0) ∧ recs (laid (A n) ++ t) = A n ++ b.take j ∧ (laid (A n) ++ t).length - (left (laid (A n) ++ t)).length = (laid (A n ++ b.take j)).length ∧ Near d (openS d n) ∧
      (∃ t' su', LI (openS d n).2.fs ns A t' su' ∧ Tail b t') ∧ (d.fz = Fz.none_ → LI (openS d n).2.fs ns A (laid (b.take j)) (laid (b.take j)).length) := by
  have hf := h.last n hn
  have hr : d.read (segN n) = (laid (A n) ++ t, 0) := by unfold Ds.read; rw [hf]
  obtain ⟨j, e1, e2, e3⟩ := torn (h.dat n (last_mem' hn)) hb ht
  have hle := left_le (laid (A n) ++ t)
  have e4 : (laid (A n) ++ t).length - (left (laid (A n) ++ t)).length = (laid (A n ++ b.take j)).length := by omega
  have el : (laid (A n ++ b.take j)).length = (laid (A n)).length + (laid (b.take j)).length := by rw [laid_append, List.length_append]
  refine ⟨j, hr, e1, e4, ?_⟩
  by_cases hlt : (laid (A n ++ b.take j)).length < (laid (A n) ++ t).length
  · have ho : openS d n = d.do_ fun d => { d with fs := fput d.fs (segN n) ⟨laid (A n ++ b.take j), (laid (A n ++ b.take j)).length⟩, used := d.used - ((laid (A n) ++ t).length - (laid (A n ++ b.take j)).length : Nat) } := by
      unfold openS
      rw [hr]
      simp only
      rw [e4, if_pos hlt]
      unfold Ds.truncate
      rw [hf]
      simp only
      rw [if_neg (by omega), e3]
    have hact : LI (fput d.fs (segN n) ⟨laid (A n ++ b.take j), (laid (A n ++ b.take j)).length⟩) ns A (laid (b.take j)) (laid (b.take j)).length := by
      rw [el, laid_append]
      exact h.setLast hn (Nat.le_refl _)
    rw [ho]
    refine ⟨Near.of_do (fun _ => rfl) (fun _ => by simp only; omega) (fun _ => rfl), ?_, fun hz => ?_⟩
    · exact do_fs (P := fun fs => ∃ t' su', LI fs ns A t' su' ∧ Tail b t') ⟨t, su, h, ht⟩ ⟨_, _, hact, Tail.some j⟩
    · rw [do_none _ _ hz]; exact hact
  · have hee : t = laid (b.take j) := by
      have h5 : (laid (A n) ++ t).take (laid (A n ++ b.take j)).length = laid (A n) ++ t := List.take_of_length_le (by omega)
      rw [e3, laid_append] at h5
      exact (List.append_cancel_left h5).symm
    have ho : openS d n = d.do_ fun d => { d with fs := fput d.fs (segN n) ⟨laid (A n) ++ t, (laid (A n) ++ t).length⟩ } := by
      unfold openS
      rw [hr]
      simp only
      rw [e4, if_neg hlt]
      unfold Ds.sync
      rw [hf]
    have hact : LI (fput d.fs (segN n) ⟨laid (A n) ++ t, (laid (A n) ++ t).length⟩) ns A t t.length := by
      rw [List.length_append]
      exact h.setLast hn (Nat.le_refl _)
    rw [ho]
    refine ⟨Near.of_do (fun _ => rfl) (fun _ => Int.le_refl _) (fun _ => rfl), ?_, fun hz => ?_⟩
    · exact do_fs (P := fun fs => ∃ t' su', LI fs ns A t' su' ∧ Tail b t') ⟨t, su, h, ht⟩ ⟨_, _, hact, ht⟩
    · rw [do_none _ _ hz, ← hee]; exact hact
theorem Near.trans {r : Nat × Ds} {r2 : Nat × Ds} (h : Near d r) (_h0 : r.1 = 0) (h2 : Near r.2 r2) : Near d r2 :=
  ⟨h2.room.trans h.room, Int.le_trans h2.used h.used, h2.err, fun hz => h2.calm (h.calm hz).2⟩
theorem last_of_suffix {n : Nat} {l p : List Nat} (h : p ++ n :: l = ns) (hr : ns.Pairwise (· < ·)) : (l = [] → ns.getLast? = some n) ∧ (l ≠ [] → ns.getLast? ≠ some n) := by
  subst h
  refine ⟨fun e => by rw [e]; simp, fun hne e => ?_⟩
  have h1 := (List.pairwise_append.1 hr).2.1
  have h2 := (List.pairwise_cons.1 h1).1
  have : (p ++ n :: l).getLast? = l.getLast? := by
    rw [List.getLast?_append, List.getLast?_cons]
    cases hc : l.getLast? with
    | none => exact absurd (List.getLast?_eq_none_iff.1 hc) hne
    | some x => simp
  rw [this] at e
  have := h2 n (List.mem_of_getLast? e)
  omega
def foundIn (ns : List Nat) (A : Nat → List Rc) (c : List Rc) (n : Nat) : List Rc := if ns.getLast? = some n then A n ++ c else A n
theorem openL_calm (hb : ∀ r ∈ b, r.2.length ≤ 1048576) : ∀ (l p : List Nat) (d : Ds) (t : List UInt8) (su : Nat) (all : List Rc) (seg size : Nat), LI d.fs ns A t su → Tail b t → p ++ l = ns → d.fz = Fz.none_ →
    ∃ j d' q z, openL l d all seg size = (0, d', all ++ l.flatMap (foundIn ns A (b.take j)), q, z) ∧ d'.fz = Fz.none_ ∧ d'.room = d.room ∧ d'.used ≤ d.used ∧
      (l = [] → d' = d ∧ q = seg ∧ z = size) ∧ (l ≠ [] → LI d'.fs ns A (laid (b.take j)) (laid (b.take j)).length ∧ ns.getLast? = some q ∧ z = (laid (foundIn ns A (b.take j) q)).length)
  | [], p, d, t, su, all, seg, size, h, ht, _, hz => ⟨0, d, seg, size, by simp [openL], hz, rfl, Int.le_refl _, fun _ => ⟨rfl, rfl, rfl⟩, fun e => absurd rfl e⟩
  | n :: l, p, d, t, su, all, seg, size, h, ht, hp, hz => by
    have hn : n ∈ ns := by rw [← hp]; simp
    have hlast := last_of_suffix hp h.ris
    by_cases hl : l = []
    · obtain ⟨j, h1, h2, h3, h4, _, h6⟩ := open_last h ht hb (hlast.1 hl)
      have hc := h4.calm hz
      refine ⟨j, (openS d n).2, n, (laid (A n ++ b.take j)).length, ?_, hc.2, h4.room, h4.used, fun e => (by cases e), fun _ => ⟨h6 hz, hlast.1 hl, by unfold foundIn; rw [if_pos (hlast.1 hl)]⟩⟩
      rw [openL, if_neg (by rw [h1]; exact fun e => e rfl), if_neg (by rw [hc.1]; exact fun e => e rfl), h1]
      simp only
      rw [h2, h3, hl, openL, List.flatMap_cons, List.flatMap_nil, List.append_nil]
      unfold foundIn
      rw [if_pos (hlast.1 hl)]
    · obtain ⟨h1, h2, h3⟩ := open_full h hn (hlast.2 hl)
      have hc := h2.calm hz
      have hs := small_recs (h.dat n hn)
      obtain ⟨j, d', q, z, g1, g2, g3, g4, _, g6⟩ := openL_calm hb l (p ++ [n]) (openS d n).2 t su (all ++ A n) n (laid (A n)).length h3 ht (by rw [List.append_assoc]; exact hp) hc.2
      refine ⟨j, d', q, z, ?_, g2, g3.trans h2.room, Int.le_trans g4 h2.used, fun e => (by cases e), fun _ => g6 hl⟩
      rw [openL, if_neg (by rw [h1]; exact fun e => e rfl), if_neg (by rw [hc.1]; exact fun e => e rfl), h1]
      simp only
      rw [hs.1, hs.2, List.length_nil, Nat.sub_zero, g1, List.flatMap_cons, List.append_assoc]
      unfold foundIn
      rw [if_neg (hlast.2 hl)]
end
end Go.Bar.Wal

namespace Go.Bar.Wal
open Go.RowKit Go.Bar Go.Bar.Leb Go.Bar.Frm

def wAppend (d : Ds) (g : Lg) (rs : List Rc) : Nat × Ds × Lg :=
  if g.broken = true then (9, d, g) else if laid rs = [] then (0, d, g) else if d.free < (laid rs).length then (7, d, g)
  else
    let g1 : Lg := if 0 < g.size ∧ g.limit - (laid rs).length < g.size then ⟨g.limit, g.seg + 1, 0, g.broken⟩ else g
    let r := d.append (segN g1.seg) (laid rs)
    if r.1 ≠ 0 then (r.1, r.2, ⟨g1.limit, g1.seg, g1.size, r.1 == 8⟩)
    else
      let q := r.2.sync (segN g1.seg)
      (q.1, q.2, ⟨g1.limit, g1.seg, g1.size + (laid rs).length, q.1 == 8⟩)

section
variable {fs : Fs} {ns : List Nat} {A : Nat → List Rc} {t : List UInt8} {su : Nat}
theorem LI.settle {c : List Rc} (h : LI fs ns A (laid c) (laid c).length) {n : Nat} (hn : ns.getLast? = some n) (hc : ∀ r ∈ c, r.2.length ≤ 1048576) : LI fs ns (updA A n (A n ++ c)) [] 0 := by
  refine ⟨h.srt, h.ris, h.rng, h.keys, fun k hk hl => ?_, fun k hk => ?_, Nat.le_refl _, fun _ => rfl, fun k hk r hr => ?_, h.sok⟩
  · rw [updA_ne (fun e => hl (by rw [e]; exact hn))]
    exact h.full k hk hl
  · rw [hn] at hk
    obtain rfl := Option.some.inj hk
    rw [updA_self, h.last n hn, laid_append, List.append_nil, List.length_append]; rfl
  · by_cases e : k = n
    · subst e
      rw [updA_self] at hr
      exact (List.mem_append.1 hr).elim (h.dat k hk r) (hc r)
    · rw [updA_ne e] at hr
      exact h.dat k hk r hr
theorem flat_last {n : Nat} {B : List Rc} (hr : ns.Pairwise (· < ·)) (hn : ns.getLast? = some n) : ns.flatMap (updA A n (A n ++ B)) = ns.flatMap A ++ B := by
  obtain ⟨l, rfl⟩ : ∃ l, ns = l ++ [n] := List.getLast?_eq_some_iff.1 hn
  have h1 : ∀ k ∈ l, k ≠ n := fun k hk e => by
    have := (List.pairwise_append.1 hr).2.2 k hk n (by simp)
    omega
  have h2 : ∀ m : List Nat, (∀ k ∈ m, k ≠ n) → m.flatMap (updA A n (A n ++ B)) = m.flatMap A := fun m hm => by
    induction m with
    | nil => rfl
    | cons x m ih =>
      rw [List.flatMap_cons, List.flatMap_cons, updA_ne (hm x (List.mem_cons_self ..)), ih fun k hk => hm k (List.mem_cons_of_mem _ hk)]
  rw [List.flatMap_append, List.flatMap_append, h2 l h1]
  simp [updA_self]
theorem flat_new {n : Nat} {B : List Rc} (hn : ∀ k ∈ ns, k < n) : (ns ++ [n]).flatMap (updA A n B) = ns.flatMap A ++ B := by
  have h2 : ∀ m : List Nat, (∀ k ∈ m, k < n) → m.flatMap (updA A n B) = m.flatMap A := fun m hm => by
    induction m with
    | nil => rfl
    | cons x m ih =>
      have := hm x (List.mem_cons_self ..)
      rw [List.flatMap_cons, List.flatMap_cons, updA_ne (by omega), ih fun k hk => hm k (List.mem_cons_of_mem _ hk)]
  rw [List.flatMap_append, h2 ns hn]
  simp [updA_self]
theorem laid_nil {rs : List Rc} (h : laid rs = []) : rs = [] := by
  cases rs with
  | nil => rfl
  | cons r rs =>
    rw [laid_cons] at h
    have := congrArg List.length h
    rw [List.length_append] at this
    have hr : 1 ≤ (rec r).length := by rw [rec_len]; exact Nat.le_trans (by decide : 1 ≤ 5) (Nat.le_add_right_of_le (Nat.le_add_right _ _))
    simp only [List.length_nil] at this; omega
theorem ris_lt_last {n : Nat} (hr : ns.Pairwise (· < ·)) (hn : ns.getLast? = some n) : ∀ k ∈ ns, k < n + 1 := by
  obtain ⟨l, rfl⟩ : ∃ l, ns = l ++ [n] := List.getLast?_eq_some_iff.1 hn
  intro k hk
  rcases List.mem_append.1 hk with hk | hk
  · have := (List.pairwise_append.1 hr).2.2 k hk n (by simp)
    omega
  · obtain rfl := List.mem_singleton.1 hk
    omega

structure LG (d : Ds) (g : Lg) (ns : List Nat) (A : Nat → List Rc) : Prop where
  li : LI d.fs ns A [] 0
  nb : g.broken = false
  at_ : (ns.getLast? = some g.seg ∧ g.size = (laid (A g.seg)).length) ∨ (ns = [] ∧ g.size = 0)
  lo : 1 ≤ g.seg
inductive Goes (g : Lg) (ns : List Nat) (A : Nat → List Rc) (rs : List Rc) : List Nat → (Nat → List Rc) → Nat → Prop
  | here (h : ns.getLast? = some g.seg) (hs : g.size = 0 ∨ (g.size : Int) + (laid rs).length ≤ g.limit) : Goes g ns A rs ns (updA A g.seg (A g.seg ++ rs)) g.seg
  | next (m : Nat) (h : (ns = [] ∧ m = g.seg) ∨ (ns.getLast? = some g.seg ∧ m = g.seg + 1)) : Goes g ns A rs (ns ++ [m]) (updA A m rs) m
structure AppE (d : Ds) (g : Lg) (ns : List Nat) (A : Nat → List Rc) (rs : List Rc) (r : Nat × Ds × Lg) : Prop where
  room : r.2.1.room = d.room
  used : r.2.1.used ≤ d.used + (laid rs).length
  lo : d.used ≤ r.2.1.used
  lim : r.2.2.limit = g.limit
  seg : r.2.2.seg ≤ g.seg + 1
  err : r.1 = 0 ∨ r.1 = 8
  calm : d.fz = Fz.none_ → r.1 = 0 ∧ r.2.1.fz = Fz.none_
  ok : r.1 = 0 → (rs = [] ∧ r.2.1 = d ∧ r.2.2 = g) ∨ ∃ ns' A', Goes g ns A rs ns' A' r.2.2.seg ∧ LG r.2.1 r.2.2 ns' A' ∧ ns'.flatMap A' = ns.flatMap A ++ rs
  bad : r.1 = 8 → r.2.2.broken = true ∧ ∃ ns' A' t su, LI r.2.1.fs ns' A' t su ∧ Tail rs t ∧ ns'.flatMap A' = ns.flatMap A ∧ (∀ n ∈ ns', n ≤ g.seg + 1)
structure Op1 (d : Ds) (r : Nat × Ds) (fs1 : Fs) (du : Int) : Prop where
  room : r.2.room = d.room
  err : r.1 = 0 ∨ r.1 = 8
  did : (r.2.fs = fs1 ∧ r.2.used = d.used + du) ∨ (r.1 = 8 ∧ r.2.fs = d.fs ∧ r.2.used = d.used)
  calm : d.fz = Fz.none_ → r.1 = 0 ∧ r.2.fz = Fz.none_
theorem Op1.of_do {d : Ds} {act : Ds → Ds} (h : ∀ z, act { d with fz := z } = { act d with fz := z }) (hr : (act d).room = d.room) (hz : (act d).fz = d.fz) {fs1 : Fs} {du : Int} (h1 : (act d).fs = fs1) (h2 : (act d).used = d.used + du) : Op1 d (d.do_ act) fs1 du := by
  refine ⟨?_, ?_, ?_, fun hc => ?_⟩
  · rcases do_cases d act with ⟨_, e⟩ | ⟨_, e | e⟩ <;> rw [e]
    · rw [h]; exact hr
    · rw [h]; exact hr
  · rcases do_cases d act with ⟨e, _⟩ | ⟨e, _⟩
    · exact .inl e
    · exact .inr e
  · rcases do_cases d act with ⟨_, e⟩ | ⟨e0, e | e⟩ <;> rw [e]
    · rw [h]; exact .inl ⟨h1, h2⟩
    · rw [h]; exact .inl ⟨h1, h2⟩
    · exact .inr ⟨e0, rfl, rfl⟩
  · rw [do_none d act hc]; exact ⟨rfl, hz.trans hc⟩
theorem append_op {d : Ds} {n : Nm} {s : List UInt8} (hb : ¬ badName n) (hf : (s.length : Int) ≤ d.free) : Op1 d (d.append n s) (fput d.fs n ⟨((fnd d.fs n).getD Fi.z).s ++ s, ((fnd d.fs n).getD Fi.z).sure⟩) s.length := by
  unfold Ds.append
  rw [if_neg hb, if_neg (by omega)]
  exact Op1.of_do (fun _ => rfl) rfl rfl rfl rfl
theorem sync_op {d : Ds} {n : Nm} {f : Fi} (hf : fnd d.fs n = some f) : Op1 d (d.sync n) (fput d.fs n ⟨f.s, f.s.length⟩) 0 := by
  unfold Ds.sync
  rw [hf]
  exact Op1.of_do (fun _ => rfl) rfl rfl rfl (by simp)
theorem app_two {d : Ds} {m : Nat} {rs : List Rc} {ns' : List Nat} {A' : Nat → List Rc} (hm : m < 100000000) (hfree : ((laid rs).length : Int) ≤ d.free)
    (hdone : LI (fput d.fs (segN m) ⟨((fnd d.fs (segN m)).getD Fi.z).s ++ laid rs, ((fnd d.fs (segN m)).getD Fi.z).sure⟩) ns' A' (laid rs) 0) (hlast : ns'.getLast? = some m) :
    Op1 d (d.append (segN m) (laid rs)) (fput d.fs (segN m) ⟨((fnd d.fs (segN m)).getD Fi.z).s ++ laid rs, ((fnd d.fs (segN m)).getD Fi.z).sure⟩) (laid rs).length ∧
    ((d.append (segN m) (laid rs)).1 = 0 → ∃ fs2, Op1 (d.append (segN m) (laid rs)).2 ((d.append (segN m) (laid rs)).2.sync (segN m)) fs2 0 ∧ LI fs2 ns' A' (laid rs) (laid rs).length ∧ LI (d.append (segN m) (laid rs)).2.fs ns' A' (laid rs) 0) := by
  have h1 := append_op (d := d) (s := laid rs) (segN_good hm) hfree
  refine ⟨h1, fun h0 => ?_⟩
  have hfs : (d.append (segN m) (laid rs)).2.fs = fput d.fs (segN m) ⟨((fnd d.fs (segN m)).getD Fi.z).s ++ laid rs, ((fnd d.fs (segN m)).getD Fi.z).sure⟩ := by
    rcases h1.did with ⟨e, _⟩ | ⟨e, _⟩
    · exact e
    · rw [h0] at e; cases e
  rw [← hfs] at hdone
  have h2 := sync_op (hdone.last m hlast)
  refine ⟨_, h2, ?_, hdone⟩
  rw [List.length_append]
  exact hdone.setLast hlast (Nat.le_refl _)
theorem app_fin {d : Ds} {g g1 : Lg} {m : Nat} {rs : List Rc} {ns' : List Nat} {A' A2 : Nat → List Rc} (h0 : LI d.fs ns A [] 0) (hrs : ∀ r ∈ rs, r.2.length ≤ 1048576) (hm : m < 100000000) (hfree : ((laid rs).length : Int) ≤ d.free)
    (hdone : LI (fput d.fs (segN m) ⟨((fnd d.fs (segN m)).getD Fi.z).s ++ laid rs, ((fnd d.fs (segN m)).getD Fi.z).sure⟩) ns' A' (laid rs) 0) (hlast : ns'.getLast? = some m) (hflat : ns'.flatMap A' = ns.flatMap A)
    (hg1 : g1.seg = m) (hg2 : g1.limit = g.limit) (hg3 : m ≤ g.seg + 1) (hg4 : g1.size = (laid (A' m)).length) (hlo : 1 ≤ m) (hA2 : A2 = updA A' m (A' m ++ rs)) (hgo : Goes g ns A rs ns' A2 m) (hle : ∀ n ∈ ns, n ≤ g.seg + 1) :
    AppE d g ns A rs (let r := d.append (segN g1.seg) (laid rs)
      if r.1 ≠ 0 then (r.1, r.2, ⟨g1.limit, g1.seg, g1.size, r.1 == 8⟩)
      else
        let q := r.2.sync (segN g1.seg)
        (q.1, q.2, ⟨g1.limit, g1.seg, g1.size + (laid rs).length, q.1 == 8⟩)) := by
  rw [hg1]
  obtain ⟨o1, o2⟩ := app_two hm hfree hdone hlast
  have hle' : ∀ n ∈ ns', n ≤ g.seg + 1 := fun n hn => by
    have := ris_lt_last hdone.ris hlast n hn
    omega
  have hbad1 : ∃ ns' A' t su, LI (d.append (segN m) (laid rs)).2.fs ns' A' t su ∧ Tail rs t ∧ ns'.flatMap A' = ns.flatMap A ∧ (∀ n ∈ ns', n ≤ g.seg + 1) := by
    rcases o1.did with ⟨e, _⟩ | ⟨_, e, _⟩
    · rw [e]; exact ⟨_, _, _, _, hdone, Tail.all rs, hflat, hle'⟩
    · rw [e]; exact ⟨_, _, _, _, h0, Tail.nil rs, rfl, hle⟩
  have hu1 : (d.append (segN m) (laid rs)).2.used ≤ d.used + (laid rs).length := by
    rcases o1.did with ⟨_, e⟩ | ⟨_, _, e⟩ <;> omega
  have hu2 : d.used ≤ (d.append (segN m) (laid rs)).2.used := by
    rcases o1.did with ⟨_, e⟩ | ⟨_, _, e⟩ <;> omega
  by_cases he : (d.append (segN m) (laid rs)).1 ≠ 0
  · have h8 : (d.append (segN m) (laid rs)).1 = 8 := o1.err.resolve_left he
    simp only [he, if_true, ne_eq, not_false_eq_true]
    exact ⟨o1.room, hu1, hu2, hg2, hg3, o1.err, fun hc => absurd (o1.calm hc).1 he, fun e => absurd e he, fun _ => ⟨by rw [h8]; rfl, hbad1⟩⟩
  · have he : (d.append (segN m) (laid rs)).1 = 0 := Decidable.not_not.1 he
    obtain ⟨fs2, p1, p2, p3⟩ := o2 he
    simp only [he, ne_eq, not_true_eq_false, if_false]
    refine ⟨p1.room.trans o1.room, ?_, ?_, hg2, hg3, p1.err, fun hc => p1.calm (o1.calm hc).2, fun e => .inr ?_, fun e => ⟨?_, ?_⟩⟩
    · have : ((d.append (segN m) (laid rs)).2.sync (segN m)).2.used ≤ (d.append (segN m) (laid rs)).2.used := by
        rcases p1.did with ⟨_, e⟩ | ⟨_, _, e⟩ <;> omega
      show ((d.append (segN m) (laid rs)).2.sync (segN m)).2.used ≤ _
      omega
    · have : (d.append (segN m) (laid rs)).2.used ≤ ((d.append (segN m) (laid rs)).2.sync (segN m)).2.used := by
        rcases p1.did with ⟨_, e⟩ | ⟨_, _, e⟩ <;> omega
      show _ ≤ ((d.append (segN m) (laid rs)).2.sync (segN m)).2.used
      omega
    · have e : ((d.append (segN m) (laid rs)).2.sync (segN m)).1 = 0 := e
      have hfs : ((d.append (segN m) (laid rs)).2.sync (segN m)).2.fs = fs2 := by
        rcases p1.did with ⟨e2, _⟩ | ⟨e2, _⟩
        · exact e2
        · rw [e] at e2; cases e2
      have hset := p2.settle hlast hrs
      rw [← hfs] at hset
      refine ⟨ns', A2, hgo, ⟨hA2 ▸ hset, ?_, .inl ⟨hlast, ?_⟩, hlo⟩, ?_⟩
      · show (((d.append (segN m) (laid rs)).2.sync (segN m)).1 == 8) = false
        rw [e]; rfl
      · show g1.size + (laid rs).length = (laid (A2 m)).length
        rw [hA2, updA_self, laid_append, List.length_append, hg4]
      · rw [hA2, flat_last hdone.ris hlast, hflat]
    · have e : ((d.append (segN m) (laid rs)).2.sync (segN m)).1 = 8 := e
      show (((d.append (segN m) (laid rs)).2.sync (segN m)).1 == 8) = true
      rw [e]; rfl
    · show ∃ ns' A' t su, LI ((d.append (segN m) (laid rs)).2.sync (segN m)).2.fs ns' A' t su ∧ _
      rcases p1.did with ⟨e2, _⟩ | ⟨_, e2, _⟩
      · rw [e2]; exact ⟨_, _, _, _, p2, Tail.all rs, hflat, hle'⟩
      · rw [e2]; exact ⟨_, _, _, _, p3, Tail.all rs, hflat, hle'⟩
theorem no_seg {m : Nat} (h : LI fs ns A t su) (hm : ∀ n ∈ ns, n < m) (h2 : m < 100000000) : fnd fs (segN m) = none := by
  cases hc : fnd fs (segN m) with
  | none => rfl
  | some f =>
    obtain ⟨n, hn, e⟩ := h.keys _ (segN_pre m) (by rw [hc]; rfl)
    have := segN_inj h2 (h.rng n hn).2 e
    have := hm n hn
    omega
theorem append_any {d : Ds} {g : Lg} {rs : List Rc} (h : LG d g ns A) (hrs : ∀ r ∈ rs, r.2.length ≤ 1048576) (hfree : ((laid rs).length : Int) ≤ d.free) (hseg : g.seg + 1 < 100000000) : AppE d g ns A rs (wAppend d g rs) := by
  unfold wAppend
  rw [if_neg (by rw [h.nb]; decide)]
  by_cases h0 : laid rs = []
  · rw [if_pos h0]
    exact ⟨rfl, by simp only; omega, Int.le_refl _, rfl, Nat.le_succ _, .inl rfl, fun hc => ⟨rfl, hc⟩, fun _ => .inl ⟨laid_nil h0, rfl, rfl⟩, fun e => by cases e⟩
  · rw [if_neg h0, if_neg (by omega)]
    have hnew : ∀ m, (∀ n ∈ ns, n < m) → 1 ≤ m → m < 100000000 → LI (fput d.fs (segN m) ⟨((fnd d.fs (segN m)).getD Fi.z).s ++ laid rs, ((fnd d.fs (segN m)).getD Fi.z).sure⟩) (ns ++ [m]) (updA A m []) (laid rs) 0 := fun m h1 h2 h3 => by
      have hno := no_seg h.li h1 h3
      rw [hno]
      refine h.li.new h1 h2 h3 (B := []) (fun r hr => by cases hr) (Nat.zero_le _) (h.li.srt.put _ _) (fun x _ => ?_) (put_sok h.li.sok (Nat.zero_le _))
      rw [fnd_put]; rfl
    have hlasts : ∀ m, (ns ++ [m]).getLast? = some m := fun m => by simp
    rcases h.at_ with ⟨hl, hz⟩ | ⟨hn, hz⟩
    · have hle : ∀ n ∈ ns, n ≤ g.seg + 1 := fun n hn => Nat.le_of_lt (ris_lt_last h.li.ris hl n hn)
      by_cases hsw : 0 < g.size ∧ g.limit - (laid rs).length < g.size
      · rw [if_pos hsw]
        exact app_fin (g1 := ⟨g.limit, g.seg + 1, 0, g.broken⟩) (m := g.seg + 1) (A2 := updA A (g.seg + 1) rs) h.li hrs hseg hfree (hnew _ (ris_lt_last h.li.ris hl) (by omega) hseg) (hlasts _) (by rw [flat_new (ris_lt_last h.li.ris hl), List.append_nil]) rfl rfl (Nat.le_refl _) (by rw [updA_self]; rfl) (by omega)
          (by funext n; unfold updA; split <;> simp_all) (.next _ (.inr ⟨hl, rfl⟩)) hle
      · rw [if_neg hsw]
        have hf := h.li.last g.seg hl
        have hdone : LI (fput d.fs (segN g.seg) ⟨((fnd d.fs (segN g.seg)).getD Fi.z).s ++ laid rs, ((fnd d.fs (segN g.seg)).getD Fi.z).sure⟩) ns A (laid rs) 0 := by
          rw [hf]
          show LI (fput d.fs (segN g.seg) ⟨laid (A g.seg) ++ [] ++ laid rs, (laid (A g.seg)).length + 0⟩) ns A (laid rs) 0
          rw [List.append_nil]
          exact h.li.setLast hl (Nat.zero_le _)
        exact app_fin (g1 := g) (m := g.seg) h.li hrs (by omega) hfree hdone hl rfl rfl rfl (Nat.le_succ _) hz h.lo rfl (.here hl (by omega)) hle
    · subst hn
      rw [if_neg (show ¬ (0 < g.size ∧ g.limit - (laid rs).length < g.size) by omega)]
      exact app_fin (g1 := g) (m := g.seg) (A2 := updA A g.seg rs) h.li hrs (by omega) hfree (hnew _ (fun n hn => by cases hn) h.lo (by omega)) (hlasts _) (by simp [updA_self]) rfl rfl (Nat.le_succ _) (by rw [updA_self, hz]; rfl) h.lo
        (by funext n; unfold updA; split <;> simp_all) (.next _ (.inl ⟨rfl, rfl⟩)) (fun n hn => by cases hn)
end
end Go.Bar.Wal

namespace Go.Bar.Wal
open Go.RowKit Go.Bar Go.Bar.Leb Go.Bar.Frm

structure Stp (d : Ds) (r : Nat × Ds) (du : Int) (P0 P8 : Fs → Prop) : Prop where
  room : r.2.room = d.room
  used : r.2.used ≤ d.used + du
  err : r.1 = 0 ∨ r.1 = 8
  calm : d.fz = Fz.none_ → r.1 = 0 ∧ r.2.fz = Fz.none_
  ok : r.1 = 0 → P0 r.2.fs
  bad : r.1 = 8 → P8 r.2.fs
theorem Stp.mono {d : Ds} {r : Nat × Ds} {du : Int} {P0 P8 Q0 Q8 : Fs → Prop} (h : Stp d r du P0 P8) (h0 : ∀ fs, P0 fs → Q0 fs) (h8 : ∀ fs, P8 fs → Q8 fs) : Stp d r du Q0 Q8 := ⟨h.room, h.used, h.err, h.calm, fun e => h0 _ (h.ok e), fun e => h8 _ (h.bad e)⟩

section
variable {fs : Fs} {ns : List Nat} {A : Nat → List Rc} {t : List UInt8} {su : Nat}
end
end Go.Bar.Wal

namespace Go.Bar.Wal
open Go.RowKit Go.Bar Go.Bar.Leb Go.Bar.Frm

section
variable {d : Ds} {ns : List Nat} {A : Nat → List Rc} {b : List Rc} {t : List UInt8} {su : Nat}
theorem found_flat (c : List Rc) (hr : ns.Pairwise (· < ·)) (hne : ns ≠ []) : ns.flatMap (foundIn ns A c) = ns.flatMap A ++ c := by
  obtain ⟨n, hn⟩ : ∃ n, ns.getLast? = some n := by
    cases h : ns.getLast? with
    | none => exact absurd (List.getLast?_eq_none_iff.1 h) hne
    | some n => exact ⟨n, rfl⟩
  have : foundIn ns A c = updA A n (A n ++ c) := by
    funext k
    unfold foundIn updA
    by_cases e : k = n
    · rw [if_pos e, e, if_pos hn]
    · rw [if_neg e, if_neg (fun h => e (by rw [hn] at h; exact (Option.some.inj h).symm))]
  rw [this, flat_last hr hn]
theorem wOpen_calm (h : LI d.fs ns A t su) (ht : Tail b t) (hb : ∀ r ∈ b, r.2.length ≤ 1048576) (limit : Int) (hz : d.fz = Fz.none_) :
    ∃ j d' g A', wOpen d limit = (0, d', g, since (ns.flatMap A ++ b.take j)) ∧ g.limit = max limit 1 ∧ LG d' g ns A' ∧ ns.flatMap A' = ns.flatMap A ++ b.take j ∧ d'.fz = Fz.none_ ∧ d'.room = d.room ∧ d'.used ≤ d.used ∧ (ns = [] → g.seg = 1) := by
  obtain ⟨j, d', q, z, e, g1, g2, g3, g4, g5⟩ := openL_calm hb ns [] d t su [] 1 0 h ht rfl hz
  have hw : wOpen d limit = (0, d', ⟨max limit 1, q, z, false⟩, since (ns.flatMap (foundIn ns A (b.take j)))) := by
    unfold wOpen
    rw [h.segs, e]
    rfl
  by_cases hne : ns = []
  · obtain ⟨rfl, rfl, rfl⟩ := g4 hne
    have htn := h.emp hne
    subst hne; subst htn
    refine ⟨0, d', _, A, hw.trans rfl, rfl, ⟨⟨h.srt, h.ris, h.rng, h.keys, h.full, fun n hn => (by cases hn), Nat.le_refl _, fun _ => rfl, h.dat, h.sok⟩, rfl, .inr ⟨rfl, rfl⟩, Nat.le_refl _⟩, rfl, g1, g2, g3, fun _ => rfl⟩
  · obtain ⟨g5, hl, hz⟩ := g5 hne
    have hs := g5.settle hl (fun r hr => hb r (List.mem_of_mem_take hr))
    refine ⟨j, d', ⟨max limit 1, q, z, false⟩, _, ?_, rfl, ⟨hs, rfl, .inl ⟨hl, ?_⟩, (h.rng q (last_mem' hl)).1⟩, flat_last h.ris hl, g1, g2, g3, fun e => absurd e hne⟩
    · rw [hw, found_flat _ h.ris hne]
    · show z = (laid (updA A q (A q ++ b.take j) q)).length
      rw [updA_self, hz]
      unfold foundIn
      rw [if_pos hl]
theorem LI.empty : LI [] [] A [] 0 := ⟨List.Pairwise.nil, List.Pairwise.nil, fun n hn => (by cases hn), fun x _ hx => (by cases hx), fun n hn => (by cases hn), fun n hn => (by cases hn), Nat.le_refl _, fun _ => rfl, fun n hn => (by cases hn), fun x f hf => (by cases hf)⟩
end
end Go.Bar.Wal
