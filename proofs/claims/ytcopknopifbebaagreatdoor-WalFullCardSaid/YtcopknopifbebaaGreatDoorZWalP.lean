/-
  Layer 11 (wal): plain: a log's files, what is sure of them, what a crash and what a torn write leave: no program in sight; no condition.
-/
import Derived.Test.YtcopknopifbebaaGreatDoorZLebM

namespace Go.Bar.Wal
open Go.RowKit Go.Bar Go.Bar.Leb Go.Bar.Frm

theorem laid_append (a b : List Rc) : laid (a ++ b) = laid a ++ laid b := List.flatMap_append
theorem whole_take : ∀ (b : List Rc) (k : Nat), (whole b k).2 = (laid (b.take (whole b k).1)).length
  | [], _ => rfl
  | r :: b, k => by
    rw [whole]
    split
    · simp only
      rw [List.take_succ_cons, laid_cons, List.length_append, whole_take b]; omega
    · rfl
theorem whole_append : ∀ (a b : List Rc) (k : Nat), whole (a ++ b) ((laid a).length + k) = (a.length + (whole b k).1, (laid a).length + (whole b k).2)
  | [], b, k => by simp [laid]
  | r :: a, b, k => by
    rw [List.cons_append, whole, laid_cons, List.length_append, if_pos (by omega), show (rec r).length + (laid a).length + k - (rec r).length = (laid a).length + k by omega, whole_append a b k]
    simp only [List.length_cons, Prod.mk.injEq]
    omega
def Tail (b : List Rc) (t : List UInt8) : Prop := ∃ k, k ≤ (laid b).length ∧ t = (laid b).take k
theorem Tail.nil (b : List Rc) : Tail b [] := ⟨0, Nat.zero_le _, rfl⟩
theorem Tail.all (b : List Rc) : Tail b (laid b) := ⟨_, Nat.le_refl _, (List.take_length ..).symm⟩
theorem Tail.take {b : List Rc} {t : List UInt8} (h : Tail b t) (j : Nat) : Tail b (t.take j) := by
  obtain ⟨k, hk, rfl⟩ := h
  exact ⟨min j k, by omega, List.take_take ..⟩
theorem Tail.some {b : List Rc} (j : Nat) : Tail b (laid (b.take j)) := by
  refine ⟨(laid (b.take j)).length, ?_, ?_⟩
  · have h := congrArg (fun l => (laid l).length) (List.take_append_drop j b)
    simp only [laid_append, List.length_append] at h
    omega
  · have h := congrArg laid (List.take_append_drop j b)
    rw [laid_append] at h
    rw [← h, List.take_left]
theorem torn {a b : List Rc} {t : List UInt8} (ha : ∀ r ∈ a, r.2.length ≤ 1048576) (hb : ∀ r ∈ b, r.2.length ≤ 1048576) (h : Tail b t) :
    ∃ j, recs (laid a ++ t) = a ++ b.take j ∧ (laid a ++ t).length = (laid (a ++ b.take j)).length + (left (laid a ++ t)).length ∧ (laid a ++ t).take (laid (a ++ b.take j)).length = laid (a ++ b.take j) := by
  obtain ⟨k, hk, rfl⟩ := h
  have e : laid a ++ (laid b).take k = (laid (a ++ b)).take ((laid a).length + k) := by
    rw [laid_append, List.take_length_add_append]
  have hr := recs_torn (a ++ b) ((laid a).length + k) (fun r hr => (List.mem_append.1 hr).elim (ha r) (hb r)) (by rw [laid_append, List.length_append]; omega)
  rw [whole_append, whole_take] at hr
  simp only at hr
  have hw := whole_le b k
  have ht : (a ++ b).take (a.length + (whole b k).1) = a ++ b.take (whole b k).1 := by rw [List.take_length_add_append]
  rw [ht] at hr
  refine ⟨(whole b k).1, by rw [e]; exact hr.1, ?_, ?_⟩
  · have h2 := hr.2
    have l1 : (laid (a ++ b)).length = (laid a).length + (laid b).length := by rw [laid_append, List.length_append]
    have l2 : (laid (a ++ b.take (whole b k).1)).length = (laid a).length + (laid (b.take (whole b k).1)).length := by rw [laid_append, List.length_append]
    rw [e, List.length_take]
    omega
  · rw [e]
    have h2 := hr.2
    have h3 : laid (a ++ b) = laid (a ++ b.take (whole b k).1) ++ laid (b.drop (whole b k).1) := by
      rw [← laid_append, List.append_assoc, List.take_append_drop]
    rw [List.take_take, h3]
    have h4 : (laid (a ++ b.take (whole b k).1)).length ≤ (laid a).length + k := by
      rw [laid_append, List.length_append]; omega
    rw [Nat.min_eq_left h4, List.take_left]

theorem hit_works (q : List (Int × Bool)) (a : Int) (b : Bool) : (Fz.hit q a b).1.1 = true → (Fz.hit q a b).1.2 = true := by
  unfold Fz.hit
  split
  · exact fun _ => rfl
  · exact fun h => (by cases h)
theorem next_works (z : Fz) : z.next.1.1 = true → z.next.1.2 = true := by
  unfold Fz.next
  split
  · exact hit_works _ _ _
  · split
    · exact fun _ => rfl
    · exact hit_works _ _ _
theorem do_cases (d : Ds) (act : Ds → Ds) : ((d.do_ act).1 = 0 ∧ (d.do_ act).2 = act { d with fz := d.fz.next.2 }) ∨ ((d.do_ act).1 = 8 ∧ ((d.do_ act).2 = act { d with fz := d.fz.next.2 } ∨ (d.do_ act).2 = { d with fz := d.fz.next.2 })) := by
  unfold Ds.do_
  by_cases h : d.fz.next.1.1 = true
  · rw [if_pos h, if_pos (next_works _ h)]; exact .inl ⟨rfl, rfl⟩
  · rw [if_neg h]
    by_cases h2 : d.fz.next.1.2 = true
    · rw [if_pos h2]; exact .inr ⟨rfl, .inl rfl⟩
    · rw [if_neg h2]; exact .inr ⟨rfl, .inr rfl⟩
theorem do_none (d : Ds) (act : Ds → Ds) (h : d.fz = Fz.none_) : d.do_ act = (0, act d) := by
  unfold Ds.do_
  obtain ⟨fs, room, used, fz⟩ := d
  simp only at h
  subst h
  rfl

structure LI (fs : Fs) (ns : List Nat) (A : Nat → List Rc) (t : List UInt8) (su : Nat) : Prop where
  srt : Srt fs
  ris : ns.Pairwise (· < ·)
  rng : ∀ n ∈ ns, 1 ≤ n ∧ n < 100000000
  keys : ∀ x, pre.isPrefixOf x = true → (fnd fs x).isSome = true → ∃ n ∈ ns, x = segN n
  full : ∀ n ∈ ns, ns.getLast? ≠ some n → fnd fs (segN n) = some ⟨laid (A n), (laid (A n)).length⟩
  last : ∀ n, ns.getLast? = some n → fnd fs (segN n) = some ⟨laid (A n) ++ t, (laid (A n)).length + su⟩
  le : su ≤ t.length
  emp : ns = [] → t = []
  dat : ∀ n ∈ ns, ∀ r ∈ A n, r.2.length ≤ 1048576
  sok : ∀ x f, fnd fs x = some f → f.sure ≤ f.s.length
theorem srt_unique {a b : List Nm} (ha : a.Pairwise (· < ·)) (hb : b.Pairwise (· < ·)) (h : ∀ x, x ∈ a ↔ x ∈ b) : a = b := by
  induction a generalizing b with
  | nil =>
    cases b with
    | nil => rfl
    | cons y r => exact absurd ((h y).2 (List.mem_cons_self ..)) (by simp)
  | cons x a ih =>
    cases b with
    | nil => exact absurd ((h x).1 (List.mem_cons_self ..)) (by simp)
    | cons y b =>
      obtain ⟨ha1, ha2⟩ := List.pairwise_cons.1 ha
      obtain ⟨hb1, hb2⟩ := List.pairwise_cons.1 hb
      have hxy : x = y := by
        rcases List.mem_cons.1 ((h x).1 (List.mem_cons_self ..)) with e | e
        · exact e
        · rcases List.mem_cons.1 ((h y).2 (List.mem_cons_self ..)) with e2 | e2
          · exact e2.symm
          · exact absurd (List.lt_trans (hb1 x e) (ha1 y e2)) (List.lt_irrefl _)
      subst hxy
      rw [ih ha2 hb2 fun z => ?_]
      constructor
      · intro hz
        rcases List.mem_cons.1 ((h z).1 (List.mem_cons_of_mem _ hz)) with e | e
        · exact absurd (e ▸ ha1 z hz) (List.lt_irrefl _)
        · exact e
      · intro hz
        rcases List.mem_cons.1 ((h z).2 (List.mem_cons_of_mem _ hz)) with e | e
        · exact absurd (e ▸ hb1 z hz) (List.lt_irrefl _)
        · exact e
theorem LI.has {fs : Fs} {ns : List Nat} {A : Nat → List Rc} {t : List UInt8} {su : Nat} (h : LI fs ns A t su) {n : Nat} (hn : n ∈ ns) : ∃ f, fnd fs (segN n) = some f := by
  by_cases e : ns.getLast? = some n
  · exact ⟨_, h.last n e⟩
  · exact ⟨_, h.full n hn e⟩
theorem LI.list {d : Ds} {ns : List Nat} {A : Nat → List Rc} {t : List UInt8} {su : Nat} (h : LI d.fs ns A t su) : d.list pre = ns.map segN := by
  refine srt_unique ?_ ?_ fun x => ?_
  · unfold Ds.list
    exact ((List.pairwise_map.2 h.srt).sublist List.filter_sublist)
  · rw [List.pairwise_map]
    exact h.ris.imp_of_mem fun ha hb hab => segN_lt hab (h.rng _ hb).2
  · unfold Ds.list
    rw [List.mem_filter, ← fnd_some_iff, List.mem_map]
    constructor
    · rintro ⟨h1, h2⟩
      obtain ⟨n, hn, e⟩ := h.keys x h2 h1
      exact ⟨n, hn, e.symm⟩
    · rintro ⟨n, hn, rfl⟩
      obtain ⟨f, hf⟩ := h.has hn
      exact ⟨by rw [hf]; rfl, segN_pre n⟩
end Go.Bar.Wal

/-
  Layer 11 (wal): plain: what a disk's calls, and a crash, do to a log's files: no program in sight; no condition.
-/
namespace Go.Bar.Wal
open Go.RowKit Go.Bar Go.Bar.Leb Go.Bar.Frm

section
variable {fs fs' : Fs} {ns : List Nat} {A : Nat → List Rc} {t : List UInt8} {su : Nat}
theorem LI.of (h : LI fs ns A t su) (hs : Srt fs') (he : ∀ x, pre.isPrefixOf x = true → fnd fs' x = fnd fs x) (hk : ∀ x f, fnd fs' x = some f → f.sure ≤ f.s.length) : LI fs' ns A t su :=
  ⟨hs, h.ris, h.rng, fun x hp hx => h.keys x hp (by rw [← he x hp]; exact hx), fun n hn hl => (he _ (segN_pre n)).trans (h.full n hn hl), fun n hl => (he _ (segN_pre n)).trans (h.last n hl), h.le, h.emp, h.dat, hk⟩
theorem put_sok (h : ∀ x f, fnd fs x = some f → f.sure ≤ f.s.length) {n : Nm} {g : Fi} (hg : g.sure ≤ g.s.length) : ∀ x f, fnd (fput fs n g) x = some f → f.sure ≤ f.s.length := fun x f hf => by
  rw [fnd_put] at hf
  split at hf
  · injection hf with hf; rw [← hf]; exact hg
  · exact h x f hf
theorem del_sok (h : ∀ x f, fnd fs x = some f → f.sure ≤ f.s.length) (n : Nm) : ∀ x f, fnd (fdel fs n) x = some f → f.sure ≤ f.s.length := fun x f hf => by
  rw [fnd_del] at hf
  split at hf
  · cases hf
  · exact h x f hf
theorem LI.other (h : LI fs ns A t su) {n : Nm} (hn : pre.isPrefixOf n = false) {g : Fi} (hg : g.sure ≤ g.s.length) : LI (fput fs n g) ns A t su :=
  h.of (h.srt.put n g) (fun x hx => by rw [fnd_put, if_neg (fun e => by rw [e, hn] at hx; cases hx)]) (put_sok h.sok hg)
theorem LI.other_del (h : LI fs ns A t su) {n : Nm} (hn : pre.isPrefixOf n = false) : LI (fdel fs n) ns A t su :=
  h.of (h.srt.del n) (fun x hx => by rw [fnd_del, if_neg (fun e => by rw [e, hn] at hx; cases hx)]) (del_sok h.sok n)
theorem LI.same (h : LI fs ns A t su) {n : Nm} {g : Fi} (hg : fnd fs n = some g) : LI (fput fs n g) ns A t su :=
  h.of (h.srt.put n g) (fun x _ => by
    rw [fnd_put]
    split
    · rename_i e; rw [e]; exact hg.symm
    · rfl) (put_sok h.sok (h.sok _ _ hg))
theorem LI.seg_ne (h : LI fs ns A t su) {m n : Nat} (hm : m ∈ ns) (hn : n ∈ ns) (hne : m ≠ n) : segN m ≠ segN n := fun e => hne (segN_inj (h.rng m hm).2 (h.rng n hn).2 e)
theorem last_mem' {n : Nat} (h : ns.getLast? = some n) : n ∈ ns := List.mem_of_getLast? h
theorem LI.setLast (h : LI fs ns A t su) {n : Nat} (hn : ns.getLast? = some n) {t' : List UInt8} {su' : Nat} (hl : su' ≤ t'.length) : LI (fput fs (segN n) ⟨laid (A n) ++ t', (laid (A n)).length + su'⟩) ns A t' su' := by
  have hm := last_mem' hn
  refine ⟨h.srt.put _ _, h.ris, h.rng, fun x hp hx => ?_, fun k hk hl' => ?_, fun k hk => ?_, hl, fun e => (by rw [e] at hn; cases hn), h.dat, put_sok h.sok (by simp only [List.length_append]; omega)⟩
  · rw [fnd_put] at hx
    split at hx
    · rename_i e; exact ⟨n, hm, e⟩
    · exact h.keys x hp hx
  · rw [fnd_put, if_neg (h.seg_ne hk hm (fun e => hl' (by rw [e]; exact hn)))]
    exact h.full k hk hl'
  · have e : n = k := by rw [hn] at hk; exact Option.some.inj hk
    subst e
    rw [fnd_put, if_pos rfl]
def updA (A : Nat → List Rc) (m : Nat) (B : List Rc) : Nat → List Rc := fun n => if n = m then B else A n
theorem updA_ne {A : Nat → List Rc} {m n : Nat} {B : List Rc} (h : n ≠ m) : updA A m B n = A n := if_neg h
theorem updA_self (A : Nat → List Rc) (m : Nat) (B : List Rc) : updA A m B m = B := if_pos rfl
theorem LI.new (h : LI fs ns A [] su) {m : Nat} (hm : ∀ n ∈ ns, n < m) (h1 : 1 ≤ m) (h2 : m < 100000000) {B : List Rc} (hB : ∀ r ∈ B, r.2.length ≤ 1048576) {t' : List UInt8} {su' : Nat} (hl : su' ≤ t'.length)
    (hs : Srt fs') (hf : ∀ x, pre.isPrefixOf x = true → fnd fs' x = if x = segN m then some ⟨laid B ++ t', (laid B).length + su'⟩ else fnd fs x) (hk : ∀ x f, fnd fs' x = some f → f.sure ≤ f.s.length) :
    LI fs' (ns ++ [m]) (updA A m B) t' su' := by
  have hlast : (ns ++ [m]).getLast? = some m := by simp
  have hsu : su = 0 := by have := h.le; simpa using this
  have hwas : ∀ n ∈ ns, fnd fs (segN n) = some ⟨laid (A n), (laid (A n)).length⟩ := fun n hn => by
    by_cases e : ns.getLast? = some n
    · rw [h.last n e, hsu, List.append_nil]; rfl
    · exact h.full n hn e
  refine ⟨hs, ?_, fun n hn => ?_, fun x hp hx => ?_, fun n hn hl' => ?_, fun n hn => ?_, hl, fun e => by simp at e, fun n hn r hr => ?_, hk⟩
  · rw [List.pairwise_append]
    refine ⟨h.ris, List.pairwise_singleton _ _, fun a ha b hb => ?_⟩
    obtain rfl := List.mem_singleton.1 hb
    exact hm a ha
  · rcases List.mem_append.1 hn with hn | hn
    · exact h.rng n hn
    · obtain rfl := List.mem_singleton.1 hn
      exact ⟨h1, h2⟩
  · rw [hf x hp] at hx
    split at hx
    · rename_i e; exact ⟨m, by simp, e⟩
    · obtain ⟨n, hn, e⟩ := h.keys x hp hx
      exact ⟨n, List.mem_append_left _ hn, e⟩
  · rcases List.mem_append.1 hn with hn | hn
    · have hlt := hm n hn
      rw [hf _ (segN_pre n), if_neg (fun e => by have := segN_inj (h.rng n hn).2 h2 e; omega), updA_ne (by omega)]
      exact hwas n hn
    · obtain rfl := List.mem_singleton.1 hn
      exact absurd hlast hl'
  · rw [hlast] at hn
    obtain rfl := Option.some.inj hn
    rw [hf _ (segN_pre m), if_pos rfl, updA_self]
  · rcases List.mem_append.1 hn with hn | hn
    · rw [updA_ne (by have := hm n hn; omega)] at hr
      exact h.dat n hn r hr
    · obtain rfl := List.mem_singleton.1 hn
      rw [updA_self] at hr
      exact hB r hr
theorem getLast_filter {n : Nat} (h : ns.getLast? ≠ some n) : (ns.filter (· ≠ n)).getLast? = ns.getLast? := by
  rcases List.eq_nil_or_concat ns with e | ⟨l, m, e⟩
  · rw [e]; rfl
  · rw [e, List.concat_eq_append] at h ⊢
    have hm : m ≠ n := fun e => h (by rw [e]; simp)
    rw [List.filter_append]
    simp [hm]
theorem LI.remove (h : LI fs ns A t su) {n : Nat} (hn : n ∈ ns) (hl : ns.getLast? ≠ some n) : LI (fdel fs (segN n)) (ns.filter (· ≠ n)) A t su := by
  have hg := getLast_filter hl
  have hsub : ∀ k, k ∈ ns.filter (· ≠ n) → k ∈ ns ∧ k ≠ n := fun k hk => by
    have := List.mem_filter.1 hk
    exact ⟨this.1, by simpa using this.2⟩
  refine ⟨h.srt.del _, h.ris.sublist List.filter_sublist, fun k hk => h.rng k (hsub k hk).1, fun x hp hx => ?_, fun k hk hl' => ?_, fun k hk => ?_, h.le, fun e => ?_, fun k hk => h.dat k (hsub k hk).1, del_sok h.sok _⟩
  · rw [fnd_del] at hx
    split at hx
    · cases hx
    · rename_i e
      obtain ⟨k, hk, e2⟩ := h.keys x hp hx
      exact ⟨k, List.mem_filter.2 ⟨hk, by simpa using fun e3 => e (by rw [e2, e3])⟩, e2⟩
  · obtain ⟨h1, h2⟩ := hsub k hk
    rw [fnd_del, if_neg (h.seg_ne h1 hn h2)]
    exact h.full k h1 (by rw [← hg]; exact hl')
  · rw [hg] at hk
    rw [fnd_del, if_neg (h.seg_ne (last_mem' hk) hn (fun e => hl (by rw [← e]; exact hk)))]
    exact h.last k hk
  · apply h.emp
    rcases hc : ns.getLast? with _ | k
    · exact List.getLast?_eq_none_iff.1 hc
    · rw [e] at hg; rw [hc] at hg; cases hg

theorem crash_names (fs : Fs) (cs : List Int) : (crashF fs cs).map (·.1) = fs.map (·.1) := by
  induction fs generalizing cs with
  | nil => rfl
  | cons p r ih =>
    obtain ⟨n, f⟩ := p
    rw [crashF]
    split
    · rw [List.map_cons, ih]; rfl
    · rw [List.map_cons, ih]; rfl
theorem crash_fnd (fs : Fs) (hk : ∀ p ∈ fs, p.2.sure ≤ p.2.s.length) (cs : List Int) (x : Nm) : match fnd fs x with
    | none => fnd (crashF fs cs) x = none
    | some f => ∃ k, f.sure ≤ k ∧ fnd (crashF fs cs) x = some ⟨f.s.take k, (f.s.take k).length⟩ := by
  induction fs generalizing cs with
  | nil => exact rfl
  | cons p r ih =>
    obtain ⟨n, f⟩ := p
    have hp := hk _ (List.mem_cons_self ..)
    have ih := fun cs => ih (fun q hq => hk q (List.mem_cons_of_mem _ hq)) cs
    rw [crashF]
    by_cases hl : f.s.length - f.sure = 0
    · rw [if_pos hl]
      show match (if n = x then some f else fnd r x) with
        | none => (if n = x then some f else fnd (crashF r cs) x) = none
        | some g => ∃ k, g.sure ≤ k ∧ (if n = x then some f else fnd (crashF r cs) x) = some ⟨g.s.take k, (g.s.take k).length⟩
      by_cases e : n = x
      · rw [if_pos e, if_pos e]
        refine ⟨f.s.length, hp, ?_⟩
        rw [List.take_length]
        have h1 : f.sure = f.s.length := by simp only at hp hl; omega
        rw [← h1]
      · rw [if_neg e, if_neg e]; exact ih cs
    · rw [if_neg hl]
      obtain ⟨k, hkk⟩ : ∃ k, k = keepOf (f.s.length - f.sure) cs.head? := ⟨_, rfl⟩
      rw [← hkk]
      show match (if n = x then some f else fnd r x) with
        | none => (if n = x then some (⟨f.s.take (f.sure + k), (f.s.take (f.sure + k)).length⟩ : Fi) else fnd (crashF r cs.tail) x) = none
        | some g => ∃ j, g.sure ≤ j ∧ (if n = x then some (⟨f.s.take (f.sure + k), (f.s.take (f.sure + k)).length⟩ : Fi) else fnd (crashF r cs.tail) x) = some ⟨g.s.take j, (g.s.take j).length⟩
      by_cases e : n = x
      · rw [if_pos e, if_pos e]
        exact ⟨f.sure + k, Nat.le_add_right _ _, rfl⟩
      · rw [if_neg e, if_neg e]; exact ih cs.tail
theorem fs_sok (h : Srt fs) (hk : ∀ x f, fnd fs x = some f → f.sure ≤ f.s.length) : ∀ p ∈ fs, p.2.sure ≤ p.2.s.length := fun p hp => hk p.1 p.2 (h.fnd hp)
theorem LI.crash (h : LI fs ns A t su) (cs : List Int) : ∃ k, su ≤ k ∧ LI (crashF fs cs) ns A (t.take k) (t.take k).length := by
  have hc := crash_fnd fs (fs_sok h.srt h.sok) cs
  have hsrt : Srt (crashF fs cs) := by
    have := List.pairwise_map.2 h.srt
    rw [← crash_names fs cs] at this
    exact List.pairwise_map.1 this
  have hkeys : ∀ x, pre.isPrefixOf x = true → (fnd (crashF fs cs) x).isSome = true → ∃ n ∈ ns, x = segN n := fun x hp hx => by
    refine h.keys x hp ?_
    have h1 := hc x
    cases hf : fnd fs x with
    | some f => rfl
    | none => rw [hf] at h1; rw [h1] at hx; cases hx
  have hfull : ∀ n ∈ ns, ns.getLast? ≠ some n → fnd (crashF fs cs) (segN n) = some ⟨laid (A n), (laid (A n)).length⟩ := fun n hn hl => by
    have h1 := hc (segN n)
    rw [h.full n hn hl] at h1
    obtain ⟨k, hk, e⟩ := h1
    rw [e, List.take_of_length_le hk]
  have hsok : ∀ x f, fnd (crashF fs cs) x = some f → f.sure ≤ f.s.length := fun x f hf => by
    have h1 := hc x
    cases hg : fnd fs x with
    | none => rw [hg] at h1; rw [h1] at hf; cases hf
    | some g =>
      rw [hg] at h1
      obtain ⟨k, _, e⟩ := h1
      rw [e] at hf
      injection hf with hf
      rw [← hf]; exact Nat.le_refl _
  rcases hl : ns.getLast? with _ | n
  · have hn := List.getLast?_eq_none_iff.1 hl
    have ht := h.emp hn
    refine ⟨su, Nat.le_refl _, hsrt, h.ris, h.rng, hkeys, hfull, fun n hn => ?_, Nat.le_refl _, fun _ => by rw [ht, List.take_nil], h.dat, hsok⟩
    rw [hl] at hn; cases hn
  · have h1 := hc (segN n)
    rw [h.last n hl] at h1
    obtain ⟨k, hk, e⟩ := h1
    have hk : (laid (A n)).length + su ≤ k := hk
    refine ⟨k - (laid (A n)).length, by omega, hsrt, h.ris, h.rng, hkeys, hfull, fun m hm => ?_, Nat.le_refl _, fun e => (by rw [e] at hl; cases hl), h.dat, hsok⟩
    rw [hl] at hm
    obtain rfl := Option.some.inj hm
    have e2 : (laid (A n) ++ t).take k = laid (A n) ++ t.take (k - (laid (A n)).length) := by rw [List.take_append, List.take_of_length_le (by omega)]
    rw [e]
    show some (⟨(laid (A n) ++ t).take k, ((laid (A n) ++ t).take k).length⟩ : Fi) = _
    rw [e2, List.length_append]
end
end Go.Bar.Wal

/-
  Layer 11 (wal): plain: a log is opened: no program in sight; no condition.
-/
namespace Go.Bar.Wal
open Go.RowKit Go.Bar Go.Bar.Leb Go.Bar.Frm

structure Lg where
  limit : Int
  seg : Nat
  size : Nat
  broken : Bool
def since (l : List Rc) : List Rc := (l.reverse.takeWhile (fun r => r.1 != 255)).reverse
theorem since_append (a : List Rc) {b : List Rc} (h : ∀ r ∈ b, r.1 ≠ 255) : since (a ++ b) = since a ++ b := by
  unfold since
  rw [List.reverse_append, List.takeWhile_append_of_pos (fun r hr => by simpa using h r (List.mem_reverse.1 hr)), List.reverse_append, List.reverse_reverse]
theorem since_reset (a : List Rc) (d : List UInt8) {b : List Rc} (h : ∀ r ∈ b, r.1 ≠ 255) : since (a ++ (255, d) :: b) = b := by
  unfold since
  rw [List.reverse_append, List.reverse_cons, List.append_assoc, List.takeWhile_append_of_pos (fun r hr => by simpa using h r (List.mem_reverse.1 hr))]
  simp
def segsOf (d : Ds) : List Nat := (((d.list pre).map numN).filter (fun n => decide (0 < n))).mergeSort (fun a b => decide (a ≤ b))
theorem LI.segs {d : Ds} {ns : List Nat} {A : Nat → List Rc} {t : List UInt8} {su : Nat} (h : LI d.fs ns A t su) : segsOf d = ns := by
  unfold segsOf
  rw [h.list, List.map_map]
  have h1 : ns.map (numN ∘ segN) = ns := by
    have : ∀ l : List Nat, (∀ n ∈ l, n ∈ ns) → l.map (numN ∘ segN) = l := fun l hl => by
      induction l with
      | nil => rfl
      | cons x l ih =>
        have hx := h.rng x (hl x (List.mem_cons_self ..))
        rw [List.map_cons, ih fun n hn => hl n (List.mem_cons_of_mem _ hn)]
        show numN (segN x) :: l = _
        rw [numN_seg hx.1 hx.2]
    exact this ns fun _ h => h
  rw [h1, List.filter_eq_self.2 (fun n hn => decide_eq_true (by have := (h.rng n hn).1; omega))]
  exact List.mergeSort_of_pairwise (h.ris.imp fun hab => by simpa using Nat.le_of_lt hab)

def openS (d : Ds) (n : Nat) : Nat × Ds := if (d.read (segN n)).1.length - (left (d.read (segN n)).1).length < (d.read (segN n)).1.length then d.truncate (segN n) ((d.read (segN n)).1.length - (left (d.read (segN n)).1).length) else d.sync (segN n)
def openL : List Nat → Ds → List Rc → Nat → Nat → Nat × Ds × List Rc × Nat × Nat
  | [], d, all, seg, size => (0, d, all, seg, size)
  | n :: ns, d, all, _, _ =>
    if (d.read (segN n)).2 ≠ 0 then ((d.read (segN n)).2, d, [], 0, 0)
    else if (openS d n).1 ≠ 0 then ((openS d n).1, (openS d n).2, [], 0, 0)
    else openL ns (openS d n).2 (all ++ recs (d.read (segN n)).1) n ((d.read (segN n)).1.length - (left (d.read (segN n)).1).length)
def wOpen (d : Ds) (limit : Int) : Nat × Ds × Lg × List Rc :=
  if (openL (segsOf d) d [] 1 0).1 ≠ 0 then ((openL (segsOf d) d [] 1 0).1, (openL (segsOf d) d [] 1 0).2.1, ⟨0, 0, 0, false⟩, [])
  else (0, (openL (segsOf d) d [] 1 0).2.1, ⟨max limit 1, (openL (segsOf d) d [] 1 0).2.2.2.1, (openL (segsOf d) d [] 1 0).2.2.2.2, false⟩, since (openL (segsOf d) d [] 1 0).2.2.1)

structure Near (d : Ds) (r : Nat × Ds) : Prop where
  room : r.2.room = d.room
  used : r.2.used ≤ d.used
  err : r.1 = 0 ∨ r.1 = 8
  calm : d.fz = Fz.none_ → r.1 = 0 ∧ r.2.fz = Fz.none_
theorem Near.of_do {d : Ds} {act : Ds → Ds} (h1 : ∀ d, (act d).room = d.room) (h2 : ∀ d, (act d).used ≤ d.used) (h3 : ∀ d, (act d).fz = d.fz) : Near d (d.do_ act) := by
  refine ⟨?_, ?_, ?_, fun h => ?_⟩
  · rcases do_cases d act with ⟨_, e⟩ | ⟨_, e | e⟩ <;> rw [e]
    · exact h1 _
    · exact h1 _
  · rcases do_cases d act with ⟨_, e⟩ | ⟨_, e | e⟩ <;> rw [e]
    · exact h2 _
    · exact h2 _
    · exact Int.le_refl _
  · rcases do_cases d act with ⟨e, _⟩ | ⟨e, _⟩
    · exact .inl e
    · exact .inr e
  · rw [do_none d act h]; exact ⟨rfl, (h3 d).trans h⟩
theorem do_fs {d : Ds} {act : Ds → Ds} {P : Fs → Prop} (h0 : P d.fs) (h1 : P (act { d with fz := d.fz.next.2 }).fs) : P (d.do_ act).2.fs := by
  rcases do_cases d act with ⟨_, e⟩ | ⟨_, e | e⟩ <;> rw [e]
  · exact h1
  · exact h1
  · exact h0

section
variable {d : Ds} {ns : List Nat} {A : Nat → List Rc} {b : List Rc} {t : List UInt8} {su : Nat}
theorem small_recs {a : List Rc} (h : ∀ r ∈ a, r.2.length ≤ 1048576) : recs (laid a) = a ∧ left (laid a) = [] := by
  have := recs_laid a [] h next_nil
  rwa [List.append_nil] at this
theorem open_full (h : LI d.fs ns A t su) {n : Nat} (hn : n ∈ ns) (hl : ns.getLast? ≠ some n) :
    d.read (segN n) = (laid (A n), 0) ∧ Near d (openS d n) ∧ LI (openS d n).2.fs ns A t su := by
  have hf := h.full n hn hl
  have hr : d.read (segN n) = (laid (A n), 0) := by unfold Ds.read; rw [hf]
  have hs := small_recs (h.dat n hn)
  have ho : openS d n = d.do_ fun d => { d with fs := fput d.fs (segN n) ⟨laid (A n), (laid (A n)).length⟩ } := by
    unfold openS
    rw [hr]
    simp only
    rw [hs.2, List.length_nil, Nat.sub_zero, if_neg (Nat.lt_irrefl _)]
    unfold Ds.sync
    rw [hf]
  rw [ho]
  exact ⟨hr, Near.of_do (fun _ => rfl) (fun _ => Int.le_refl _) (fun _ => rfl), do_fs (P := fun fs => LI fs ns A t su) h (h.same hf)⟩
theorem open_last (h : LI d.fs ns A t su) (ht : Tail b t) (hb : ∀ r ∈ b, r.2.length ≤ 1048576) {n : Nat} (hn : ns.getLast? = some n) :
    ∃ j, d.read (segN n) = (laid (A n) ++ t, 0) ∧ recs (laid (A n) ++ t) = A n ++ b.take j ∧ (laid (A n) ++ t).length - (left (laid (A n) ++ t)).length = (laid (A n ++ b.take j)).length ∧ Near d (openS d n) ∧
      (∃ t' su', LI (openS d n).2.fs ns A t' su' ∧ Tail b t') ∧ (d.fz = Fz.none_ → LI (openS d n).2.fs ns A (laid (b.take j)) (laid (b.take j)).length) := by
  have hf := h.last n hn
  have hr : d.read (segN n) = (laid (A n) ++ t, 0) := by unfold Ds.read; rw [hf]
  obtain ⟨j, e1, e2, e3⟩ := torn (h.dat n (last_mem' hn)) hb ht
  have hle := left_le (laid (A n) ++ t)
  have e4 : (laid (A n) ++ t).length - (left (laid (A n) ++ t)).length = (laid (A n ++ b.take j)).length := by omega
  have el : (laid (A n ++ b.take j)).length = (laid (A n)).length + (laid (b.take j)).length := by rw [laid_append, List.length_append]
  refine ⟨j, hr, e1, e4, ?_⟩
  by_cases hlt : (laid (A n ++ b.take j)).length < (laid (A n) ++ t).length
  · have ho : openS d n = d.do_ fun d => { d with fs := fput d.fs (segN n) ⟨laid (A n ++ b.take j), (laid (A n ++ b.take j)).length⟩, used := d.used - ((laid (A n) ++ t).length - (laid (A n ++ b.take j)).length : Nat) } := by
      unfold openS
      rw [hr]
      simp only
      rw [e4, if_pos hlt]
      unfold Ds.truncate
      rw [hf]
      simp only
      rw [if_neg (by omega), e3]
    have hact : LI (fput d.fs (segN n) ⟨laid (A n ++ b.take j), (laid (A n ++ b.take j)).length⟩) ns A (laid (b.take j)) (laid (b.take j)).length := by
      rw [el, laid_append]
      exact h.setLast hn (Nat.le_refl _)
    rw [ho]
    refine ⟨Near.of_do (fun _ => rfl) (fun _ => by simp only; omega) (fun _ => rfl), ?_, fun hz => ?_⟩
    · exact do_fs (P := fun fs => ∃ t' su', LI fs ns A t' su' ∧ Tail b t') ⟨t, su, h, ht⟩ ⟨_, _, hact, Tail.some j⟩
    · rw [do_none _ _ hz]; exact hact
  · have hee : t = laid (b.take j) := by
      have h5 : (laid (A n) ++ t).take (laid (A n ++ b.take j)).length = laid (A n) ++ t := List.take_of_length_le (by omega)
      rw [e3, laid_append] at h5
      exact (List.append_cancel_left h5).symm
    have ho : openS d n = d.do_ fun d => { d with fs := fput d.fs (segN n) ⟨laid (A n) ++ t, (laid (A n) ++ t).length⟩ } := by
      unfold openS
      rw [hr]
      simp only
      rw [e4, if_neg hlt]
      unfold Ds.sync
      rw [hf]
    have hact : LI (fput d.fs (segN n) ⟨laid (A n) ++ t, (laid (A n) ++ t).length⟩) ns A t t.length := by
      rw [List.length_append]
      exact h.setLast hn (Nat.le_refl _)
    rw [ho]
    refine ⟨Near.of_do (fun _ => rfl) (fun _ => Int.le_refl _) (fun _ => rfl), ?_, fun hz => ?_⟩
    · exact do_fs (P := fun fs => ∃ t' su', LI fs ns A t' su' ∧ Tail b t') ⟨t, su, h, ht⟩ ⟨_, _, hact, ht⟩
    · rw [do_none _ _ hz, ← hee]; exact hact
theorem Near.trans {r : Nat × Ds} {r2 : Nat × Ds} (h : Near d r) (_h0 : r.1 = 0) (h2 : Near r.2 r2) : Near d r2 :=
  ⟨h2.room.trans h.room, Int.le_trans h2.used h.used, h2.err, fun hz => h2.calm (h.calm hz).2⟩
theorem last_of_suffix {n : Nat} {l p : List Nat} (h : p ++ n :: l = ns) (hr : ns.Pairwise (· < ·)) : (l = [] → ns.getLast? = some n) ∧ (l ≠ [] → ns.getLast? ≠ some n) := by
  subst h
  refine ⟨fun e => by rw [e]; simp, fun hne e => ?_⟩
  have h1 := (List.pairwise_append.1 hr).2.1
  have h2 := (List.pairwise_cons.1 h1).1
  have : (p ++ n :: l).getLast? = l.getLast? := by
    rw [List.getLast?_append, List.getLast?_cons]
    cases hc : l.getLast? with
    | none => exact absurd (List.getLast?_eq_none_iff.1 hc) hne
    | some x => simp
  rw [this] at e
  have := h2 n (List.mem_of_getLast? e)
  omega
theorem openL_any (hb : ∀ r ∈ b, r.2.length ≤ 1048576) : ∀ (l p : List Nat) (d : Ds) (t : List UInt8) (su : Nat) (all : List Rc) (seg size : Nat), LI d.fs ns A t su → Tail b t → p ++ l = ns →
    (∃ t' su', LI (openL l d all seg size).2.1.fs ns A t' su' ∧ Tail b t') ∧ Near d ((openL l d all seg size).1, (openL l d all seg size).2.1)
  | [], p, d, t, su, all, seg, size, h, ht, _ => ⟨⟨t, su, h, ht⟩, rfl, Int.le_refl _, .inl rfl, fun hz => ⟨rfl, hz⟩⟩
  | n :: l, p, d, t, su, all, seg, size, h, ht, hp => by
    have hn : n ∈ ns := by rw [← hp]; simp
    have hlast := last_of_suffix hp h.ris
    have hstep : (d.read (segN n)).2 = 0 ∧ Near d (openS d n) ∧ ∃ t' su', LI (openS d n).2.fs ns A t' su' ∧ Tail b t' := by
      by_cases hl : l = []
      · obtain ⟨j, h1, _, _, h4, h5, _⟩ := open_last h ht hb (hlast.1 hl)
        exact ⟨by rw [h1], h4, h5⟩
      · obtain ⟨h1, h2, h3⟩ := open_full h hn (hlast.2 hl)
        exact ⟨by rw [h1], h2, t, su, h3, ht⟩
    obtain ⟨h1, h2, t', su', h3, h4⟩ := hstep
    rw [openL, if_neg (fun e => e h1)]
    by_cases he : (openS d n).1 ≠ 0
    · rw [if_pos he]
      exact ⟨⟨t', su', h3, h4⟩, h2.room, h2.used, h2.err, h2.calm⟩
    · rw [if_neg he]
      have he : (openS d n).1 = 0 := Decidable.not_not.1 he
      obtain ⟨g1, g2⟩ := openL_any hb l (p ++ [n]) (openS d n).2 t' su' _ n _ h3 h4 (by rw [List.append_assoc]; exact hp)
      exact ⟨g1, h2.trans he g2⟩
def foundIn (ns : List Nat) (A : Nat → List Rc) (c : List Rc) (n : Nat) : List Rc := if ns.getLast? = some n then A n ++ c else A n
theorem openL_calm (hb : ∀ r ∈ b, r.2.length ≤ 1048576) : ∀ (l p : List Nat) (d : Ds) (t : List UInt8) (su : Nat) (all : List Rc) (seg size : Nat), LI d.fs ns A t su → Tail b t → p ++ l = ns → d.fz = Fz.none_ →
    ∃ j d' q z, openL l d all seg size = (0, d', all ++ l.flatMap (foundIn ns A (b.take j)), q, z) ∧ d'.fz = Fz.none_ ∧ d'.room = d.room ∧ d'.used ≤ d.used ∧
      (l = [] → d' = d ∧ q = seg ∧ z = size) ∧ (l ≠ [] → LI d'.fs ns A (laid (b.take j)) (laid (b.take j)).length ∧ ns.getLast? = some q ∧ z = (laid (foundIn ns A (b.take j) q)).length)
  | [], p, d, t, su, all, seg, size, h, ht, _, hz => ⟨0, d, seg, size, by simp [openL], hz, rfl, Int.le_refl _, fun _ => ⟨rfl, rfl, rfl⟩, fun e => absurd rfl e⟩
  | n :: l, p, d, t, su, all, seg, size, h, ht, hp, hz => by
    have hn : n ∈ ns := by rw [← hp]; simp
    have hlast := last_of_suffix hp h.ris
    by_cases hl : l = []
    · obtain ⟨j, h1, h2, h3, h4, _, h6⟩ := open_last h ht hb (hlast.1 hl)
      have hc := h4.calm hz
      refine ⟨j, (openS d n).2, n, (laid (A n ++ b.take j)).length, ?_, hc.2, h4.room, h4.used, fun e => (by cases e), fun _ => ⟨h6 hz, hlast.1 hl, by unfold foundIn; rw [if_pos (hlast.1 hl)]⟩⟩
      rw [openL, if_neg (by rw [h1]; exact fun e => e rfl), if_neg (by rw [hc.1]; exact fun e => e rfl), h1]
      simp only
      rw [h2, h3, hl, openL, List.flatMap_cons, List.flatMap_nil, List.append_nil]
      unfold foundIn
      rw [if_pos (hlast.1 hl)]
    · obtain ⟨h1, h2, h3⟩ := open_full h hn (hlast.2 hl)
      have hc := h2.calm hz
      have hs := small_recs (h.dat n hn)
      obtain ⟨j, d', q, z, g1, g2, g3, g4, _, g6⟩ := openL_calm hb l (p ++ [n]) (openS d n).2 t su (all ++ A n) n (laid (A n)).length h3 ht (by rw [List.append_assoc]; exact hp) hc.2
      refine ⟨j, d', q, z, ?_, g2, g3.trans h2.room, Int.le_trans g4 h2.used, fun e => (by cases e), fun _ => g6 hl⟩
      rw [openL, if_neg (by rw [h1]; exact fun e => e rfl), if_neg (by rw [hc.1]; exact fun e => e rfl), h1]
      simp only
      rw [hs.1, hs.2, List.length_nil, Nat.sub_zero, g1, List.flatMap_cons, List.append_assoc]
      unfold foundIn
      rw [if_neg (hlast.2 hl)]
end
end Go.Bar.Wal

/-
  Layer 11 (wal): plain: appends and restarts of a log: no program in sight; no condition.
-/
namespace Go.Bar.Wal
open Go.RowKit Go.Bar Go.Bar.Leb Go.Bar.Frm

def wAppend (d : Ds) (g : Lg) (rs : List Rc) : Nat × Ds × Lg :=
  if g.broken = true then (9, d, g) else if laid rs = [] then (0, d, g) else if d.free < (laid rs).length then (7, d, g)
  else
    let g1 : Lg := if 0 < g.size ∧ g.limit - (laid rs).length < g.size then ⟨g.limit, g.seg + 1, 0, g.broken⟩ else g
    let r := d.append (segN g1.seg) (laid rs)
    if r.1 ≠ 0 then (r.1, r.2, ⟨g1.limit, g1.seg, g1.size, r.1 == 8⟩)
    else
      let q := r.2.sync (segN g1.seg)
      (q.1, q.2, ⟨g1.limit, g1.seg, g1.size + (laid rs).length, q.1 == 8⟩)
def unTmp (d : Ds) : Nat × Ds := if (d.read tmpN).2 = 0 then d.remove tmpN else (0, d)
def fresh (d : Ds) (n : Nm) (s : List UInt8) : Nat × Ds :=
  if (unTmp d).1 ≠ 0 then unTmp d
  else if ((unTmp d).2.append tmpN s).1 ≠ 0 then (unTmp d).2.append tmpN s
  else if (((unTmp d).2.append tmpN s).2.sync tmpN).1 ≠ 0 then ((unTmp d).2.append tmpN s).2.sync tmpN
  else (((unTmp d).2.append tmpN s).2.sync tmpN).2.rename tmpN n
def removeL : List Nat → Ds → Nat × Ds
  | [], d => (0, d)
  | n :: l, d => if (d.remove (segN n)).1 ≠ 0 then d.remove (segN n) else removeL l (d.remove (segN n)).2
def reset (rs : List Rc) : List Rc := (255, []) :: rs
def wRestart (d : Ds) (g : Lg) (rs : List Rc) : Nat × Ds × Lg :=
  if g.broken = true then (9, d, g) else if d.free < (laid (reset rs)).length then (7, d, g)
  else
    let r := fresh d (segN (g.seg + 1)) (laid (reset rs))
    if r.1 ≠ 0 then (r.1, r.2, ⟨g.limit, g.seg, g.size, r.1 == 8⟩)
    else
      let q := removeL (segsOf d) r.2
      (q.1, q.2, ⟨g.limit, g.seg + 1, (laid (reset rs)).length, q.1 == 8⟩)

section
variable {fs : Fs} {ns : List Nat} {A : Nat → List Rc} {t : List UInt8} {su : Nat}
theorem LI.settle {c : List Rc} (h : LI fs ns A (laid c) (laid c).length) {n : Nat} (hn : ns.getLast? = some n) (hc : ∀ r ∈ c, r.2.length ≤ 1048576) : LI fs ns (updA A n (A n ++ c)) [] 0 := by
  refine ⟨h.srt, h.ris, h.rng, h.keys, fun k hk hl => ?_, fun k hk => ?_, Nat.le_refl _, fun _ => rfl, fun k hk r hr => ?_, h.sok⟩
  · rw [updA_ne (fun e => hl (by rw [e]; exact hn))]
    exact h.full k hk hl
  · rw [hn] at hk
    obtain rfl := Option.some.inj hk
    rw [updA_self, h.last n hn, laid_append, List.append_nil, List.length_append]; rfl
  · by_cases e : k = n
    · subst e
      rw [updA_self] at hr
      exact (List.mem_append.1 hr).elim (h.dat k hk r) (hc r)
    · rw [updA_ne e] at hr
      exact h.dat k hk r hr
theorem flat_last {n : Nat} {B : List Rc} (hr : ns.Pairwise (· < ·)) (hn : ns.getLast? = some n) : ns.flatMap (updA A n (A n ++ B)) = ns.flatMap A ++ B := by
  obtain ⟨l, rfl⟩ : ∃ l, ns = l ++ [n] := List.getLast?_eq_some_iff.1 hn
  have h1 : ∀ k ∈ l, k ≠ n := fun k hk e => by
    have := (List.pairwise_append.1 hr).2.2 k hk n (by simp)
    omega
  have h2 : ∀ m : List Nat, (∀ k ∈ m, k ≠ n) → m.flatMap (updA A n (A n ++ B)) = m.flatMap A := fun m hm => by
    induction m with
    | nil => rfl
    | cons x m ih =>
      rw [List.flatMap_cons, List.flatMap_cons, updA_ne (hm x (List.mem_cons_self ..)), ih fun k hk => hm k (List.mem_cons_of_mem _ hk)]
  rw [List.flatMap_append, List.flatMap_append, h2 l h1]
  simp [updA_self]
theorem flat_new {n : Nat} {B : List Rc} (hn : ∀ k ∈ ns, k < n) : (ns ++ [n]).flatMap (updA A n B) = ns.flatMap A ++ B := by
  have h2 : ∀ m : List Nat, (∀ k ∈ m, k < n) → m.flatMap (updA A n B) = m.flatMap A := fun m hm => by
    induction m with
    | nil => rfl
    | cons x m ih =>
      have := hm x (List.mem_cons_self ..)
      rw [List.flatMap_cons, List.flatMap_cons, updA_ne (by omega), ih fun k hk => hm k (List.mem_cons_of_mem _ hk)]
  rw [List.flatMap_append, h2 ns hn]
  simp [updA_self]
theorem laid_nil {rs : List Rc} (h : laid rs = []) : rs = [] := by
  cases rs with
  | nil => rfl
  | cons r rs =>
    rw [laid_cons] at h
    have := congrArg List.length h
    rw [List.length_append] at this
    have hr : 1 ≤ (rec r).length := by rw [rec_len]; exact Nat.le_trans (by decide : 1 ≤ 5) (Nat.le_add_right_of_le (Nat.le_add_right _ _))
    simp only [List.length_nil] at this; omega
theorem ris_lt_last {n : Nat} (hr : ns.Pairwise (· < ·)) (hn : ns.getLast? = some n) : ∀ k ∈ ns, k < n + 1 := by
  obtain ⟨l, rfl⟩ : ∃ l, ns = l ++ [n] := List.getLast?_eq_some_iff.1 hn
  intro k hk
  rcases List.mem_append.1 hk with hk | hk
  · have := (List.pairwise_append.1 hr).2.2 k hk n (by simp)
    omega
  · obtain rfl := List.mem_singleton.1 hk
    omega

structure LG (d : Ds) (g : Lg) (ns : List Nat) (A : Nat → List Rc) : Prop where
  li : LI d.fs ns A [] 0
  nb : g.broken = false
  at_ : (ns.getLast? = some g.seg ∧ g.size = (laid (A g.seg)).length) ∨ (ns = [] ∧ g.size = 0)
  lo : 1 ≤ g.seg
inductive Goes (g : Lg) (ns : List Nat) (A : Nat → List Rc) (rs : List Rc) : List Nat → (Nat → List Rc) → Nat → Prop
  | here (h : ns.getLast? = some g.seg) (hs : g.size = 0 ∨ (g.size : Int) + (laid rs).length ≤ g.limit) : Goes g ns A rs ns (updA A g.seg (A g.seg ++ rs)) g.seg
  | next (m : Nat) (h : (ns = [] ∧ m = g.seg) ∨ (ns.getLast? = some g.seg ∧ m = g.seg + 1)) : Goes g ns A rs (ns ++ [m]) (updA A m rs) m
structure AppE (d : Ds) (g : Lg) (ns : List Nat) (A : Nat → List Rc) (rs : List Rc) (r : Nat × Ds × Lg) : Prop where
  room : r.2.1.room = d.room
  used : r.2.1.used ≤ d.used + (laid rs).length
  lo : d.used ≤ r.2.1.used
  lim : r.2.2.limit = g.limit
  seg : r.2.2.seg ≤ g.seg + 1
  err : r.1 = 0 ∨ r.1 = 8
  calm : d.fz = Fz.none_ → r.1 = 0 ∧ r.2.1.fz = Fz.none_
  ok : r.1 = 0 → (rs = [] ∧ r.2.1 = d ∧ r.2.2 = g) ∨ ∃ ns' A', Goes g ns A rs ns' A' r.2.2.seg ∧ LG r.2.1 r.2.2 ns' A' ∧ ns'.flatMap A' = ns.flatMap A ++ rs
  bad : r.1 = 8 → r.2.2.broken = true ∧ ∃ ns' A' t su, LI r.2.1.fs ns' A' t su ∧ Tail rs t ∧ ns'.flatMap A' = ns.flatMap A ∧ (∀ n ∈ ns', n ≤ g.seg + 1)
structure Op1 (d : Ds) (r : Nat × Ds) (fs1 : Fs) (du : Int) : Prop where
  room : r.2.room = d.room
  err : r.1 = 0 ∨ r.1 = 8
  did : (r.2.fs = fs1 ∧ r.2.used = d.used + du) ∨ (r.1 = 8 ∧ r.2.fs = d.fs ∧ r.2.used = d.used)
  calm : d.fz = Fz.none_ → r.1 = 0 ∧ r.2.fz = Fz.none_
theorem Op1.of_do {d : Ds} {act : Ds → Ds} (h : ∀ z, act { d with fz := z } = { act d with fz := z }) (hr : (act d).room = d.room) (hz : (act d).fz = d.fz) {fs1 : Fs} {du : Int} (h1 : (act d).fs = fs1) (h2 : (act d).used = d.used + du) : Op1 d (d.do_ act) fs1 du := by
  refine ⟨?_, ?_, ?_, fun hc => ?_⟩
  · rcases do_cases d act with ⟨_, e⟩ | ⟨_, e | e⟩ <;> rw [e]
    · rw [h]; exact hr
    · rw [h]; exact hr
  · rcases do_cases d act with ⟨e, _⟩ | ⟨e, _⟩
    · exact .inl e
    · exact .inr e
  · rcases do_cases d act with ⟨_, e⟩ | ⟨e0, e | e⟩ <;> rw [e]
    · rw [h]; exact .inl ⟨h1, h2⟩
    · rw [h]; exact .inl ⟨h1, h2⟩
    · exact .inr ⟨e0, rfl, rfl⟩
  · rw [do_none d act hc]; exact ⟨rfl, hz.trans hc⟩
theorem append_op {d : Ds} {n : Nm} {s : List UInt8} (hb : ¬ badName n) (hf : (s.length : Int) ≤ d.free) : Op1 d (d.append n s) (fput d.fs n ⟨((fnd d.fs n).getD Fi.z).s ++ s, ((fnd d.fs n).getD Fi.z).sure⟩) s.length := by
  unfold Ds.append
  rw [if_neg hb, if_neg (by omega)]
  exact Op1.of_do (fun _ => rfl) rfl rfl rfl rfl
theorem sync_op {d : Ds} {n : Nm} {f : Fi} (hf : fnd d.fs n = some f) : Op1 d (d.sync n) (fput d.fs n ⟨f.s, f.s.length⟩) 0 := by
  unfold Ds.sync
  rw [hf]
  exact Op1.of_do (fun _ => rfl) rfl rfl rfl (by simp)
theorem rename_op {d : Ds} {old n : Nm} {f : Fi} (hf : fnd d.fs old = some f) (hb : ¬ badName n) (hne : old ≠ n) : Op1 d (d.rename old n) (fput (fdel d.fs old) n f) (-(((fnd d.fs n).getD Fi.z).s.length : Nat)) := by
  unfold Ds.rename
  rw [hf]
  simp only
  rw [if_neg hb]
  exact Op1.of_do (fun _ => by simp only [if_neg hne]) (by simp only [if_neg hne]) (by simp only [if_neg hne]) (by simp only [if_neg hne]) (by simp only [if_neg hne]; omega)
theorem remove_op {d : Ds} {n : Nm} {f : Fi} (hf : fnd d.fs n = some f) : Op1 d (d.remove n) (fdel d.fs n) (-(f.s.length : Nat)) := by
  unfold Ds.remove
  rw [hf]
  exact Op1.of_do (fun _ => rfl) rfl rfl rfl (by simp only; omega)
theorem app_two {d : Ds} {m : Nat} {rs : List Rc} {ns' : List Nat} {A' : Nat → List Rc} (hm : m < 100000000) (hfree : ((laid rs).length : Int) ≤ d.free)
    (hdone : LI (fput d.fs (segN m) ⟨((fnd d.fs (segN m)).getD Fi.z).s ++ laid rs, ((fnd d.fs (segN m)).getD Fi.z).sure⟩) ns' A' (laid rs) 0) (hlast : ns'.getLast? = some m) :
    Op1 d (d.append (segN m) (laid rs)) (fput d.fs (segN m) ⟨((fnd d.fs (segN m)).getD Fi.z).s ++ laid rs, ((fnd d.fs (segN m)).getD Fi.z).sure⟩) (laid rs).length ∧
    ((d.append (segN m) (laid rs)).1 = 0 → ∃ fs2, Op1 (d.append (segN m) (laid rs)).2 ((d.append (segN m) (laid rs)).2.sync (segN m)) fs2 0 ∧ LI fs2 ns' A' (laid rs) (laid rs).length ∧ LI (d.append (segN m) (laid rs)).2.fs ns' A' (laid rs) 0) := by
  have h1 := append_op (d := d) (s := laid rs) (segN_good hm) hfree
  refine ⟨h1, fun h0 => ?_⟩
  have hfs : (d.append (segN m) (laid rs)).2.fs = fput d.fs (segN m) ⟨((fnd d.fs (segN m)).getD Fi.z).s ++ laid rs, ((fnd d.fs (segN m)).getD Fi.z).sure⟩ := by
    rcases h1.did with ⟨e, _⟩ | ⟨e, _⟩
    · exact e
    · rw [h0] at e; cases e
  rw [← hfs] at hdone
  have h2 := sync_op (hdone.last m hlast)
  refine ⟨_, h2, ?_, hdone⟩
  rw [List.length_append]
  exact hdone.setLast hlast (Nat.le_refl _)
theorem app_fin {d : Ds} {g g1 : Lg} {m : Nat} {rs : List Rc} {ns' : List Nat} {A' A2 : Nat → List Rc} (h0 : LI d.fs ns A [] 0) (hrs : ∀ r ∈ rs, r.2.length ≤ 1048576) (hm : m < 100000000) (hfree : ((laid rs).length : Int) ≤ d.free)
    (hdone : LI (fput d.fs (segN m) ⟨((fnd d.fs (segN m)).getD Fi.z).s ++ laid rs, ((fnd d.fs (segN m)).getD Fi.z).sure⟩) ns' A' (laid rs) 0) (hlast : ns'.getLast? = some m) (hflat : ns'.flatMap A' = ns.flatMap A)
    (hg1 : g1.seg = m) (hg2 : g1.limit = g.limit) (hg3 : m ≤ g.seg + 1) (hg4 : g1.size = (laid (A' m)).length) (hlo : 1 ≤ m) (hA2 : A2 = updA A' m (A' m ++ rs)) (hgo : Goes g ns A rs ns' A2 m) (hle : ∀ n ∈ ns, n ≤ g.seg + 1) :
    AppE d g ns A rs (let r := d.append (segN g1.seg) (laid rs)
      if r.1 ≠ 0 then (r.1, r.2, ⟨g1.limit, g1.seg, g1.size, r.1 == 8⟩)
      else
        let q := r.2.sync (segN g1.seg)
        (q.1, q.2, ⟨g1.limit, g1.seg, g1.size + (laid rs).length, q.1 == 8⟩)) := by
  rw [hg1]
  obtain ⟨o1, o2⟩ := app_two hm hfree hdone hlast
  have hle' : ∀ n ∈ ns', n ≤ g.seg + 1 := fun n hn => by
    have := ris_lt_last hdone.ris hlast n hn
    omega
  have hbad1 : ∃ ns' A' t su, LI (d.append (segN m) (laid rs)).2.fs ns' A' t su ∧ Tail rs t ∧ ns'.flatMap A' = ns.flatMap A ∧ (∀ n ∈ ns', n ≤ g.seg + 1) := by
    rcases o1.did with ⟨e, _⟩ | ⟨_, e, _⟩
    · rw [e]; exact ⟨_, _, _, _, hdone, Tail.all rs, hflat, hle'⟩
    · rw [e]; exact ⟨_, _, _, _, h0, Tail.nil rs, rfl, hle⟩
  have hu1 : (d.append (segN m) (laid rs)).2.used ≤ d.used + (laid rs).length := by
    rcases o1.did with ⟨_, e⟩ | ⟨_, _, e⟩ <;> omega
  have hu2 : d.used ≤ (d.append (segN m) (laid rs)).2.used := by
    rcases o1.did with ⟨_, e⟩ | ⟨_, _, e⟩ <;> omega
  by_cases he : (d.append (segN m) (laid rs)).1 ≠ 0
  · have h8 : (d.append (segN m) (laid rs)).1 = 8 := o1.err.resolve_left he
    simp only [he, if_true, ne_eq, not_false_eq_true]
    exact ⟨o1.room, hu1, hu2, hg2, hg3, o1.err, fun hc => absurd (o1.calm hc).1 he, fun e => absurd e he, fun _ => ⟨by rw [h8]; rfl, hbad1⟩⟩
  · have he : (d.append (segN m) (laid rs)).1 = 0 := Decidable.not_not.1 he
    obtain ⟨fs2, p1, p2, p3⟩ := o2 he
    simp only [he, ne_eq, not_true_eq_false, if_false]
    refine ⟨p1.room.trans o1.room, ?_, ?_, hg2, hg3, p1.err, fun hc => p1.calm (o1.calm hc).2, fun e => .inr ?_, fun e => ⟨?_, ?_⟩⟩
    · have : ((d.append (segN m) (laid rs)).2.sync (segN m)).2.used ≤ (d.append (segN m) (laid rs)).2.used := by
        rcases p1.did with ⟨_, e⟩ | ⟨_, _, e⟩ <;> omega
      show ((d.append (segN m) (laid rs)).2.sync (segN m)).2.used ≤ _
      omega
    · have : (d.append (segN m) (laid rs)).2.used ≤ ((d.append (segN m) (laid rs)).2.sync (segN m)).2.used := by
        rcases p1.did with ⟨_, e⟩ | ⟨_, _, e⟩ <;> omega
      show _ ≤ ((d.append (segN m) (laid rs)).2.sync (segN m)).2.used
      omega
    · have e : ((d.append (segN m) (laid rs)).2.sync (segN m)).1 = 0 := e
      have hfs : ((d.append (segN m) (laid rs)).2.sync (segN m)).2.fs = fs2 := by
        rcases p1.did with ⟨e2, _⟩ | ⟨e2, _⟩
        · exact e2
        · rw [e] at e2; cases e2
      have hset := p2.settle hlast hrs
      rw [← hfs] at hset
      refine ⟨ns', A2, hgo, ⟨hA2 ▸ hset, ?_, .inl ⟨hlast, ?_⟩, hlo⟩, ?_⟩
      · show (((d.append (segN m) (laid rs)).2.sync (segN m)).1 == 8) = false
        rw [e]; rfl
      · show g1.size + (laid rs).length = (laid (A2 m)).length
        rw [hA2, updA_self, laid_append, List.length_append, hg4]
      · rw [hA2, flat_last hdone.ris hlast, hflat]
    · have e : ((d.append (segN m) (laid rs)).2.sync (segN m)).1 = 8 := e
      show (((d.append (segN m) (laid rs)).2.sync (segN m)).1 == 8) = true
      rw [e]; rfl
    · show ∃ ns' A' t su, LI ((d.append (segN m) (laid rs)).2.sync (segN m)).2.fs ns' A' t su ∧ _
      rcases p1.did with ⟨e2, _⟩ | ⟨_, e2, _⟩
      · rw [e2]; exact ⟨_, _, _, _, p2, Tail.all rs, hflat, hle'⟩
      · rw [e2]; exact ⟨_, _, _, _, p3, Tail.all rs, hflat, hle'⟩
theorem no_seg {m : Nat} (h : LI fs ns A t su) (hm : ∀ n ∈ ns, n < m) (h2 : m < 100000000) : fnd fs (segN m) = none := by
  cases hc : fnd fs (segN m) with
  | none => rfl
  | some f =>
    obtain ⟨n, hn, e⟩ := h.keys _ (segN_pre m) (by rw [hc]; rfl)
    have := segN_inj h2 (h.rng n hn).2 e
    have := hm n hn
    omega
theorem append_any {d : Ds} {g : Lg} {rs : List Rc} (h : LG d g ns A) (hrs : ∀ r ∈ rs, r.2.length ≤ 1048576) (hfree : ((laid rs).length : Int) ≤ d.free) (hseg : g.seg + 1 < 100000000) : AppE d g ns A rs (wAppend d g rs) := by
  unfold wAppend
  rw [if_neg (by rw [h.nb]; decide)]
  by_cases h0 : laid rs = []
  · rw [if_pos h0]
    exact ⟨rfl, by simp only; omega, Int.le_refl _, rfl, Nat.le_succ _, .inl rfl, fun hc => ⟨rfl, hc⟩, fun _ => .inl ⟨laid_nil h0, rfl, rfl⟩, fun e => by cases e⟩
  · rw [if_neg h0, if_neg (by omega)]
    have hnew : ∀ m, (∀ n ∈ ns, n < m) → 1 ≤ m → m < 100000000 → LI (fput d.fs (segN m) ⟨((fnd d.fs (segN m)).getD Fi.z).s ++ laid rs, ((fnd d.fs (segN m)).getD Fi.z).sure⟩) (ns ++ [m]) (updA A m []) (laid rs) 0 := fun m h1 h2 h3 => by
      have hno := no_seg h.li h1 h3
      rw [hno]
      refine h.li.new h1 h2 h3 (B := []) (fun r hr => by cases hr) (Nat.zero_le _) (h.li.srt.put _ _) (fun x _ => ?_) (put_sok h.li.sok (Nat.zero_le _))
      rw [fnd_put]; rfl
    have hlasts : ∀ m, (ns ++ [m]).getLast? = some m := fun m => by simp
    rcases h.at_ with ⟨hl, hz⟩ | ⟨hn, hz⟩
    · have hle : ∀ n ∈ ns, n ≤ g.seg + 1 := fun n hn => Nat.le_of_lt (ris_lt_last h.li.ris hl n hn)
      by_cases hsw : 0 < g.size ∧ g.limit - (laid rs).length < g.size
      · rw [if_pos hsw]
        exact app_fin (g1 := ⟨g.limit, g.seg + 1, 0, g.broken⟩) (m := g.seg + 1) (A2 := updA A (g.seg + 1) rs) h.li hrs hseg hfree (hnew _ (ris_lt_last h.li.ris hl) (by omega) hseg) (hlasts _) (by rw [flat_new (ris_lt_last h.li.ris hl), List.append_nil]) rfl rfl (Nat.le_refl _) (by rw [updA_self]; rfl) (by omega)
          (by funext n; unfold updA; split <;> simp_all) (.next _ (.inr ⟨hl, rfl⟩)) hle
      · rw [if_neg hsw]
        have hf := h.li.last g.seg hl
        have hdone : LI (fput d.fs (segN g.seg) ⟨((fnd d.fs (segN g.seg)).getD Fi.z).s ++ laid rs, ((fnd d.fs (segN g.seg)).getD Fi.z).sure⟩) ns A (laid rs) 0 := by
          rw [hf]
          show LI (fput d.fs (segN g.seg) ⟨laid (A g.seg) ++ [] ++ laid rs, (laid (A g.seg)).length + 0⟩) ns A (laid rs) 0
          rw [List.append_nil]
          exact h.li.setLast hl (Nat.zero_le _)
        exact app_fin (g1 := g) (m := g.seg) h.li hrs (by omega) hfree hdone hl rfl rfl rfl (Nat.le_succ _) hz h.lo rfl (.here hl (by omega)) hle
    · subst hn
      rw [if_neg (show ¬ (0 < g.size ∧ g.limit - (laid rs).length < g.size) by omega)]
      exact app_fin (g1 := g) (m := g.seg) (A2 := updA A g.seg rs) h.li hrs (by omega) hfree (hnew _ (fun n hn => by cases hn) h.lo (by omega)) (hlasts _) (by simp [updA_self]) rfl rfl (Nat.le_succ _) (by rw [updA_self, hz]; rfl) h.lo
        (by funext n; unfold updA; split <;> simp_all) (.next _ (.inl ⟨rfl, rfl⟩)) (fun n hn => by cases hn)
end
end Go.Bar.Wal

/-
  Layer 11 (wal): plain: restarts of a log: no program in sight; no condition.
-/
namespace Go.Bar.Wal
open Go.RowKit Go.Bar Go.Bar.Leb Go.Bar.Frm

structure Stp (d : Ds) (r : Nat × Ds) (du : Int) (P0 P8 : Fs → Prop) : Prop where
  room : r.2.room = d.room
  used : r.2.used ≤ d.used + du
  err : r.1 = 0 ∨ r.1 = 8
  calm : d.fz = Fz.none_ → r.1 = 0 ∧ r.2.fz = Fz.none_
  ok : r.1 = 0 → P0 r.2.fs
  bad : r.1 = 8 → P8 r.2.fs
theorem Op1.stp {d : Ds} {r : Nat × Ds} {fs1 : Fs} {du du' : Int} {P0 P8 : Fs → Prop} (h : Op1 d r fs1 du) (hdu : du ≤ du') (hdu0 : 0 ≤ du') (h0 : P0 fs1) (h8 : P8 fs1) (h88 : P8 d.fs) : Stp d r du' P0 P8 := by
  refine ⟨h.room, ?_, h.err, h.calm, fun e => ?_, fun e => ?_⟩
  · rcases h.did with ⟨_, e⟩ | ⟨_, _, e⟩ <;> omega
  · rcases h.did with ⟨e2, _⟩ | ⟨e2, _⟩
    · rw [e2]; exact h0
    · rw [e] at e2; cases e2
  · rcases h.did with ⟨e2, _⟩ | ⟨_, e2, _⟩
    · rw [e2]; exact h8
    · rw [e2]; exact h88
theorem Stp.seq {d : Ds} {r r2 : Nat × Ds} {du du2 : Int} {P0 Q0 P8 : Fs → Prop} (h : Stp d r du P0 P8) (h2 : r.1 = 0 → Stp r.2 r2 du2 Q0 P8) (hdu : 0 ≤ du2) : Stp d (if r.1 ≠ 0 then r else r2) (du + du2) Q0 P8 := by
  by_cases e : r.1 ≠ 0
  · rw [if_pos e]
    exact ⟨h.room, by have := h.used; omega, h.err, fun hc => absurd (h.calm hc).1 e, fun e2 => absurd e2 e, h.bad⟩
  · rw [if_neg e]
    have h2 := h2 (Decidable.not_not.1 e)
    exact ⟨h2.room.trans h.room, by have := h.used; have := h2.used; omega, h2.err, fun hc => h2.calm (h.calm hc).2, h2.ok, h2.bad⟩
theorem Stp.mono {d : Ds} {r : Nat × Ds} {du : Int} {P0 P8 Q0 Q8 : Fs → Prop} (h : Stp d r du P0 P8) (h0 : ∀ fs, P0 fs → Q0 fs) (h8 : ∀ fs, P8 fs → Q8 fs) : Stp d r du Q0 Q8 := ⟨h.room, h.used, h.err, h.calm, fun e => h0 _ (h.ok e), fun e => h8 _ (h.bad e)⟩

section
variable {fs : Fs} {ns : List Nat} {A : Nat → List Rc} {t : List UInt8} {su : Nat}
theorem unTmp_any {d : Ds} (h : LI d.fs ns A t su) : Stp d (unTmp d) 0 (fun fs => LI fs ns A t su ∧ fnd fs tmpN = none) (fun fs => LI fs ns A t su) := by
  unfold unTmp Ds.read
  cases hf : fnd d.fs tmpN with
  | none => exact ⟨rfl, by show d.used ≤ _; omega, .inl rfl, fun hc => ⟨rfl, hc⟩, fun _ => ⟨h, hf⟩, fun e => by cases e⟩
  | some f => exact (remove_op hf).stp (by omega) (Int.le_refl _) ⟨h.other_del tmp_pre, by rw [fnd_del, if_pos rfl]⟩ (h.other_del tmp_pre) h
theorem fresh_any {d : Ds} {B : List Rc} {m : Nat} (h : LI d.fs ns A [] su) (hm : ∀ n ∈ ns, n < m) (h1 : 1 ≤ m) (h2 : m < 100000000) (hB : ∀ r ∈ B, r.2.length ≤ 1048576) (hfree : ((laid B).length : Int) ≤ d.free) :
    Stp d (fresh d (segN m) (laid B)) (laid B).length (fun fs => LI fs (ns ++ [m]) (updA A m B) [] 0) (fun fs => LI fs ns A [] su ∨ LI fs (ns ++ [m]) (updA A m B) [] 0) := by
  unfold fresh
  have s1 := unTmp_any h
  have hne : tmpN ≠ segN m := fun e => seg_ne_tmp m e.symm
  rw [show ((laid B).length : Int) = 0 + ((laid B).length + (0 + 0)) by omega]
  refine (s1.mono (Q0 := fun fs => LI fs ns A [] su ∧ fnd fs tmpN = none) (fun _ h => h) (fun _ h => .inl h)).seq (fun e1 => ?_) (by omega)
  obtain ⟨h1', hn1⟩ := s1.ok e1
  have hfree1 : ((laid B).length : Int) ≤ (unTmp d).2.free := by
    have := s1.used
    have := s1.room
    unfold Ds.free at hfree ⊢
    omega
  have o2 := append_op (d := (unTmp d).2) (s := laid B) tmpN_good hfree1
  rw [hn1] at o2
  have h2' : LI (fput (unTmp d).2.fs tmpN ⟨laid B, 0⟩) ns A [] su := h1'.other tmp_pre (Nat.zero_le _)
  have s2 : Stp (unTmp d).2 ((unTmp d).2.append tmpN (laid B)) (laid B).length (fun fs => LI fs ns A [] su ∧ fnd fs tmpN = some ⟨laid B, 0⟩) (fun fs => LI fs ns A [] su ∨ LI fs (ns ++ [m]) (updA A m B) [] 0) :=
    o2.stp (Int.le_refl _) (by omega) ⟨h2', by rw [fnd_put, if_pos rfl]; rfl⟩ (.inl h2') (.inl h1')
  refine s2.seq (fun e2 => ?_) (by omega)
  obtain ⟨h3, hn3⟩ := s2.ok e2
  have o3 := sync_op hn3
  have h3' : LI (fput ((unTmp d).2.append tmpN (laid B)).2.fs tmpN ⟨laid B, (laid B).length⟩) ns A [] su := h3.other tmp_pre (Nat.le_refl _)
  have s3 : Stp ((unTmp d).2.append tmpN (laid B)).2 (((unTmp d).2.append tmpN (laid B)).2.sync tmpN) 0 (fun fs => LI fs ns A [] su ∧ fnd fs tmpN = some ⟨laid B, (laid B).length⟩) (fun fs => LI fs ns A [] su ∨ LI fs (ns ++ [m]) (updA A m B) [] 0) :=
    o3.stp (Int.le_refl _) (Int.le_refl _) ⟨h3', by rw [fnd_put, if_pos rfl]⟩ (.inl h3') (.inl h3)
  refine s3.seq (fun e3 => ?_) (Int.le_refl _)
  obtain ⟨h4, hn4⟩ := s3.ok e3
  have o4 := rename_op hn4 (segN_good h2) hne
  have h4' : LI (fput (fdel (((unTmp d).2.append tmpN (laid B)).2.sync tmpN).2.fs tmpN) (segN m) ⟨laid B, (laid B).length⟩) (ns ++ [m]) (updA A m B) [] 0 := by
    refine h4.new hm h1 h2 hB (Nat.le_refl _) ((h4.srt.del _).put _ _) (fun x hx => ?_) (put_sok (del_sok h4.sok _) (Nat.le_refl _))
    rw [fnd_put, fnd_del, List.append_nil]
    split
    · rfl
    · rw [if_neg (fun e => by rw [e, tmp_pre] at hx; cases hx)]
  exact o4.stp (by omega) (Int.le_refl _) h4' (.inr h4') (.inl h4)
theorem removeL_any : ∀ (l : List Nat) (d : Ds) {m : Nat}, LI d.fs (l ++ [m]) A [] 0 → Stp d (removeL l d) 0 (fun fs => LI fs [m] A [] 0) (fun fs => ∃ l', (∀ n ∈ l', n ∈ l) ∧ LI fs (l' ++ [m]) A [] 0)
  | [], d, m, h => ⟨rfl, by show d.used ≤ _; omega, .inl rfl, fun hc => ⟨rfl, hc⟩, fun _ => h, fun e => by cases e⟩
  | n :: l, d, m, h => by
    have hn : n ∈ n :: l ++ [m] := by simp
    have hlt : ∀ k ∈ l ++ [m], n < k := (List.pairwise_cons.1 h.ris).1
    have hl : (n :: l ++ [m]).getLast? ≠ some n := fun e => by
      have : (n :: l ++ [m]).getLast? = some m := by rw [List.getLast?_append]; rfl
      rw [this] at e
      have := hlt m (by simp)
      have := Option.some.inj e
      omega
    have hfil : (n :: l ++ [m]).filter (· ≠ n) = l ++ [m] := by
      rw [List.cons_append, List.filter_cons, if_neg (by simp)]
      refine List.filter_eq_self.2 fun k hk => ?_
      have := hlt k hk
      simp; omega
    obtain ⟨f, hf⟩ := h.has hn
    have hrm := h.remove hn hl
    rw [hfil] at hrm
    have o1 := remove_op hf
    have s1 : Stp d (d.remove (segN n)) 0 (fun fs => LI fs (l ++ [m]) A [] 0) (fun fs => ∃ l', (∀ k ∈ l', k ∈ n :: l) ∧ LI fs (l' ++ [m]) A [] 0) :=
      o1.stp (by omega) (Int.le_refl _) hrm ⟨l, fun k hk => List.mem_cons_of_mem _ hk, hrm⟩ ⟨n :: l, fun k hk => hk, h⟩
    have := s1.seq (r2 := removeL l (d.remove (segN n)).2) (du2 := 0) (fun e => (removeL_any l (d.remove (segN n)).2 (s1.ok e)).mono (fun _ h => h) (fun _ ⟨l', h1, h2⟩ => ⟨l', fun k hk => List.mem_cons_of_mem _ (h1 k hk), h2⟩)) (Int.le_refl _)
    rw [removeL]
    exact this
structure RstE (d : Ds) (g : Lg) (ns : List Nat) (A : Nat → List Rc) (rs : List Rc) (r : Nat × Ds × Lg) : Prop where
  room : r.2.1.room = d.room
  used : r.2.1.used ≤ d.used + (laid (reset rs)).length
  lim : r.2.2.limit = g.limit
  seg : r.2.2.seg ≤ g.seg + 1
  err : r.1 = 0 ∨ r.1 = 8
  calm : d.fz = Fz.none_ → r.1 = 0 ∧ r.2.1.fz = Fz.none_
  ok : r.1 = 0 → LG r.2.1 r.2.2 [g.seg + 1] (updA A (g.seg + 1) (reset rs))
  bad : r.1 = 8 → r.2.2.broken = true ∧ ∃ ns' A', LI r.2.1.fs ns' A' [] 0 ∧ (∀ n ∈ ns', n ≤ g.seg + 1) ∧ (ns'.flatMap A' = ns.flatMap A ∨ ∃ X, ns'.flatMap A' = X ++ reset rs)
theorem reset_small {rs : List Rc} (h : ∀ r ∈ rs, r.2.length ≤ 1048576) : ∀ r ∈ reset rs, r.2.length ≤ 1048576 := fun r hr => by
  rcases List.mem_cons.1 hr with e | e
  · rw [e]; exact Nat.zero_le _
  · exact h r e
theorem restart_any {d : Ds} {g : Lg} {rs : List Rc} (h : LG d g ns A) (hrs : ∀ r ∈ rs, r.2.length ≤ 1048576) (hfree : ((laid (reset rs)).length : Int) ≤ d.free) (hseg : g.seg + 1 < 100000000) : RstE d g ns A rs (wRestart d g rs) := by
  have hlt : ∀ n ∈ ns, n < g.seg + 1 := by
    rcases h.at_ with ⟨hl, _⟩ | ⟨hn, _⟩
    · exact ris_lt_last h.li.ris hl
    · rw [hn]; exact fun n hn => by cases hn
  have hle : ∀ n ∈ ns, n ≤ g.seg + 1 := fun n hn => Nat.le_of_lt (hlt n hn)
  have s1 := fresh_any (B := reset rs) h.li hlt (by omega) hseg (reset_small hrs) hfree
  unfold wRestart
  rw [if_neg (by rw [h.nb]; decide), if_neg (by omega), h.li.segs]
  simp only
  by_cases e : (fresh d (segN (g.seg + 1)) (laid (reset rs))).1 ≠ 0
  · rw [if_pos e]
    have e8 := s1.err.resolve_left e
    refine ⟨s1.room, s1.used, rfl, Nat.le_succ _, s1.err, fun hc => absurd (s1.calm hc).1 e, fun e2 => absurd e2 e, fun _ => ⟨?_, ?_⟩⟩
    · show ((fresh d (segN (g.seg + 1)) (laid (reset rs))).1 == 8) = true
      rw [e8]; rfl
    · rcases s1.bad e8 with hl | hl
      · exact ⟨ns, A, hl, hle, .inl rfl⟩
      · refine ⟨ns ++ [g.seg + 1], _, hl, fun n hn => ?_, .inr ⟨ns.flatMap A, flat_new hlt⟩⟩
        rcases List.mem_append.1 hn with hn | hn
        · exact hle n hn
        · obtain rfl := List.mem_singleton.1 hn
          exact Nat.le_refl _
  · rw [if_neg e]
    have e0 := Decidable.not_not.1 e
    have s2 := removeL_any ns (fresh d (segN (g.seg + 1)) (laid (reset rs))).2 (s1.ok e0)
    refine ⟨s2.room.trans s1.room, ?_, rfl, Nat.le_refl _, s2.err, fun hc => s2.calm (s1.calm hc).2, fun e2 => ⟨s2.ok e2, ?_, .inl ⟨rfl, ?_⟩, Nat.succ_le_succ (Nat.zero_le _)⟩, fun e2 => ⟨?_, ?_⟩⟩
    · show (removeL ns (fresh d (segN (g.seg + 1)) (laid (reset rs))).2).2.used ≤ _
      have := s2.used
      have := s1.used
      omega
    · show ((removeL ns (fresh d (segN (g.seg + 1)) (laid (reset rs))).2).1 == 8) = false
      have e2 : (removeL ns (fresh d (segN (g.seg + 1)) (laid (reset rs))).2).1 = 0 := e2
      rw [e2]; rfl
    · show (laid (reset rs)).length = (laid (updA A (g.seg + 1) (reset rs) (g.seg + 1))).length
      rw [updA_self]
    · show ((removeL ns (fresh d (segN (g.seg + 1)) (laid (reset rs))).2).1 == 8) = true
      have e2 : (removeL ns (fresh d (segN (g.seg + 1)) (laid (reset rs))).2).1 = 8 := e2
      rw [e2]; rfl
    · obtain ⟨l', h1, h2⟩ := s2.bad e2
      refine ⟨l' ++ [g.seg + 1], _, h2, fun n hn => ?_, .inr ⟨l'.flatMap A, flat_new fun k hk => hlt k (h1 k hk)⟩⟩
      rcases List.mem_append.1 hn with hn | hn
      · exact hle n (h1 n hn)
      · obtain rfl := List.mem_singleton.1 hn
        exact Nat.le_refl _
end
end Go.Bar.Wal
