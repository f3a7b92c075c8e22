/-
  Layer 11 (wal): plain: what an opening gives back; a fresh file without faults: no program in sight; no condition.
-/
import Derived.Test.YtcopknopifbebaaGreatDoorZWalP
import Derived.Test.YtcopknopifbebaaGreatDoorZLebM
import Derived.Test.YtcopknopifbebaaGreatDoorZLib31
import Derived.Test.YtcopknopifbebaaGreatDoorProg
import Derived.Test.YtcopknopifbebaaGreatDoorZLib32
import Derived.BigQuiet
import Derived.BigRegion
import Derived.Deep.RegionWith
import Derived.Deep.Cut

namespace Go.Bar.Wal
open Go.RowKit Go.Bar Go.Bar.Leb Go.Bar.Frm

section
variable {d : Ds} {ns : List Nat} {A : Nat → List Rc} {b : List Rc} {t : List UInt8} {su : Nat}
theorem found_flat (c : List Rc) (hr : ns.Pairwise (· < ·)) (hne : ns ≠ []) : ns.flatMap (foundIn ns A c) = ns.flatMap A ++ c := by
  obtain ⟨n, hn⟩ : ∃ n, ns.getLast? = some n := by
    cases h : ns.getLast? with
    | none => exact absurd (List.getLast?_eq_none_iff.1 h) hne
    | some n => exact ⟨n, rfl⟩
  have : foundIn ns A c = updA A n (A n ++ c) := by
    funext k
    unfold foundIn updA
    by_cases e : k = n
    · rw [if_pos e, e, if_pos hn]
    · rw [if_neg e, if_neg (fun h => e (by rw [hn] at h; exact (Option.some.inj h).symm))]
  rw [this, flat_last hr hn]
theorem wOpen_any (h : LI d.fs ns A t su) (ht : Tail b t) (hb : ∀ r ∈ b, r.2.length ≤ 1048576) (limit : Int) :
    (∃ t' su', LI (wOpen d limit).2.1.fs ns A t' su' ∧ Tail b t') ∧ ((wOpen d limit).1 = 0 ∨ (wOpen d limit).1 = 8) ∧ (wOpen d limit).2.1.room = d.room ∧ (wOpen d limit).2.1.used ≤ d.used := by
  obtain ⟨h1, h2⟩ := openL_any hb ns [] d t su [] 1 0 h ht rfl
  unfold wOpen
  rw [h.segs]
  by_cases e : (openL ns d [] 1 0).1 ≠ 0
  · rw [if_pos e]; exact ⟨h1, h2.err, h2.room, h2.used⟩
  · rw [if_neg e]; exact ⟨h1, .inl rfl, h2.room, h2.used⟩
theorem wOpen_calm (h : LI d.fs ns A t su) (ht : Tail b t) (hb : ∀ r ∈ b, r.2.length ≤ 1048576) (limit : Int) (hz : d.fz = Fz.none_) :
    ∃ j d' g A', wOpen d limit = (0, d', g, since (ns.flatMap A ++ b.take j)) ∧ g.limit = max limit 1 ∧ LG d' g ns A' ∧ ns.flatMap A' = ns.flatMap A ++ b.take j ∧ d'.fz = Fz.none_ ∧ d'.room = d.room ∧ d'.used ≤ d.used ∧ (ns = [] → g.seg = 1) := by
  obtain ⟨j, d', q, z, e, g1, g2, g3, g4, g5⟩ := openL_calm hb ns [] d t su [] 1 0 h ht rfl hz
  have hw : wOpen d limit = (0, d', ⟨max limit 1, q, z, false⟩, since (ns.flatMap (foundIn ns A (b.take j)))) := by
    unfold wOpen
    rw [h.segs, e]
    rfl
  by_cases hne : ns = []
  · obtain ⟨rfl, rfl, rfl⟩ := g4 hne
    have htn := h.emp hne
    subst hne; subst htn
    refine ⟨0, d', _, A, hw.trans rfl, rfl, ⟨⟨h.srt, h.ris, h.rng, h.keys, h.full, fun n hn => (by cases hn), Nat.le_refl _, fun _ => rfl, h.dat, h.sok⟩, rfl, .inr ⟨rfl, rfl⟩, Nat.le_refl _⟩, rfl, g1, g2, g3, fun _ => rfl⟩
  · obtain ⟨g5, hl, hz⟩ := g5 hne
    have hs := g5.settle hl (fun r hr => hb r (List.mem_of_mem_take hr))
    refine ⟨j, d', ⟨max limit 1, q, z, false⟩, _, ?_, rfl, ⟨hs, rfl, .inl ⟨hl, ?_⟩, (h.rng q (last_mem' hl)).1⟩, flat_last h.ris hl, g1, g2, g3, fun e => absurd e hne⟩
    · rw [hw, found_flat _ h.ris hne]
    · show z = (laid (updA A q (A q ++ b.take j) q)).length
      rw [updA_self, hz]
      unfold foundIn
      rw [if_pos hl]
theorem LI.empty : LI [] [] A [] 0 := ⟨List.Pairwise.nil, List.Pairwise.nil, fun n hn => (by cases hn), fun x _ hx => (by cases hx), fun n hn => (by cases hn), fun n hn => (by cases hn), Nat.le_refl _, fun _ => rfl, fun n hn => (by cases hn), fun x f hf => (by cases hf)⟩
theorem fresh_calm {n : Nm} {s : List UInt8} (hs : Srt d.fs) (hz : d.fz = Fz.none_) (hb : ¬ badName n) (hn : n ≠ tmpN) (hfree : (s.length : Int) ≤ d.free) :
    ∃ d', fresh d n s = (0, d') ∧ d'.fz = Fz.none_ ∧ d'.room = d.room ∧ d'.used ≤ d.used + s.length ∧ Srt d'.fs ∧ ∀ x, fnd d'.fs x = if x = n then some ⟨s, s.length⟩ else if x = tmpN then none else fnd d.fs x := by
  have hu : ∃ d1, unTmp d = (0, d1) ∧ d1.fz = Fz.none_ ∧ d1.room = d.room ∧ d1.used ≤ d.used ∧ Srt d1.fs ∧ ∀ x, fnd d1.fs x = if x = tmpN then none else fnd d.fs x := by
    unfold unTmp Ds.read
    cases hf : fnd d.fs tmpN with
    | none =>
      refine ⟨d, rfl, hz, rfl, Int.le_refl _, hs, fun x => ?_⟩
      split
      · rename_i e; rw [e, hf]
      · rfl
    | some f =>
      unfold Ds.remove
      rw [hf]
      simp only [if_true]
      rw [do_none _ _ hz]
      exact ⟨_, rfl, hz, rfl, by simp only; omega, hs.del _, fun x => fnd_del _ _ _⟩
  obtain ⟨d1, e1, z1, r1, u1, s1, f1⟩ := hu
  have hfree1 : ¬ d1.free < s.length := by unfold Ds.free at hfree ⊢; omega
  have e2 : d1.append tmpN s = (0, { d1 with fs := fput d1.fs tmpN ⟨s, 0⟩, used := d1.used + s.length }) := by
    unfold Ds.append
    rw [if_neg tmpN_good, if_neg hfree1, do_none _ _ z1, f1 tmpN, if_pos rfl]
    rfl
  have e3 : ({ d1 with fs := fput d1.fs tmpN ⟨s, 0⟩, used := d1.used + s.length } : Ds).sync tmpN = (0, { d1 with fs := fput (fput d1.fs tmpN ⟨s, 0⟩) tmpN ⟨s, s.length⟩, used := d1.used + s.length }) := by
    unfold Ds.sync
    simp only [fnd_put, if_true]
    refine (do_none _ _ ?_).trans ?_
    · exact z1
    · rfl
  have e4 : ({ d1 with fs := fput (fput d1.fs tmpN ⟨s, 0⟩) tmpN ⟨s, s.length⟩, used := d1.used + s.length } : Ds).rename tmpN n = (0, { d1 with fs := fput (fdel (fput (fput d1.fs tmpN ⟨s, 0⟩) tmpN ⟨s, s.length⟩) tmpN) n ⟨s, s.length⟩, used := d1.used + s.length - ((fnd (fput (fput d1.fs tmpN ⟨s, 0⟩) tmpN ⟨s, s.length⟩) n).getD Fi.z).s.length }) := by
    unfold Ds.rename
    simp only [fnd_put, if_true, if_neg hb]
    refine (do_none _ _ ?_).trans ?_
    · exact z1
    · simp only [if_neg (fun e : tmpN = n => hn e.symm), fnd_put]
  have hall : fresh d n s = (({ d1 with fs := fput (fput d1.fs tmpN ⟨s, 0⟩) tmpN ⟨s, s.length⟩, used := d1.used + s.length } : Ds).rename tmpN n) := by
    unfold fresh
    rw [e1]
    simp only [ne_eq, not_true_eq_false, if_false]
    rw [e2]
    simp only [not_true_eq_false, if_false]
    rw [e3]
    simp only [not_true_eq_false, if_false]
  rw [hall, e4]
  refine ⟨_, rfl, z1, r1, ?_, ((((s1.put _ _).put _ _).del _).put _ _), fun x => ?_⟩
  · simp only; omega
  · simp only
    rw [fnd_put, fnd_del, fnd_put, fnd_put, f1]
    split
    · rfl
    · split
      · rfl
      · rfl
end
end Go.Bar.Wal

/-
  Layers 4, 11 (disk, wal): plain: what a disk uses is what its files have: no program in sight; no condition.
-/
namespace Go.Bar.Wal
open Go.RowKit Go.Bar Go.Bar.Leb Go.Bar.Frm

def tot : Fs → Nat
  | [] => 0
  | (_, f) :: r => f.s.length + tot r
def lenAt (fs : Fs) (n : Nm) : Nat := ((fnd fs n).getD Fi.z).s.length
theorem len_none {fs : Fs} {n : Nm} (h : fnd fs n = none) : lenAt fs n = 0 := by unfold lenAt; rw [h]; rfl
theorem len_some {fs : Fs} {n : Nm} {f : Fi} (h : fnd fs n = some f) : lenAt fs n = f.s.length := by unfold lenAt; rw [h]; rfl
theorem len_cons (m : Nm) (g : Fi) (r : Fs) (n : Nm) : lenAt ((m, g) :: r) n = if m = n then g.s.length else lenAt r n := by
  unfold lenAt
  show ((if m = n then some g else fnd r n).getD Fi.z).s.length = _
  split <;> rfl
theorem srt_none {m : Nm} {g : Fi} {r : Fs} (h : Srt ((m, g) :: r)) {n : Nm} (hn : n < m ∨ n = m) : fnd r n = none :=
  fnd_none fun p hp e => by
    have h1 := (List.pairwise_cons.1 h).1 p hp
    rw [e] at h1
    rcases hn with hn | hn
    · exact List.lt_irrefl _ (List.lt_trans hn h1)
    · rw [hn] at h1; exact List.lt_irrefl _ h1
theorem tot_put {fs : Fs} (h : Srt fs) (n : Nm) (f : Fi) : tot (fput fs n f) + lenAt fs n = tot fs + f.s.length := by
  induction fs with
  | nil =>
    show f.s.length + 0 + 0 = 0 + f.s.length
    omega
  | cons p r ih =>
    obtain ⟨m, g⟩ := p
    have ih := ih (List.pairwise_cons.1 h).2
    rw [len_cons]
    unfold fput
    by_cases e1 : m = n
    · rw [if_pos e1, if_pos e1]
      show f.s.length + tot r + g.s.length = g.s.length + tot r + f.s.length
      omega
    · rw [if_neg e1, if_neg e1]
      by_cases e2 : n < m
      · rw [if_pos e2, len_none (srt_none h (.inl e2))]
        show f.s.length + (g.s.length + tot r) + 0 = g.s.length + tot r + f.s.length
        omega
      · rw [if_neg e2]
        show g.s.length + tot (fput r n f) + lenAt r n = g.s.length + tot r + f.s.length
        omega
theorem tot_del {fs : Fs} (h : Srt fs) (n : Nm) : tot (fdel fs n) + lenAt fs n = tot fs := by
  induction fs with
  | nil => rfl
  | cons p r ih =>
    obtain ⟨m, g⟩ := p
    have ih := ih (List.pairwise_cons.1 h).2
    rw [len_cons]
    unfold fdel
    by_cases e1 : m = n
    · rw [if_pos e1, if_pos e1]
      rw [len_none (srt_none h (.inr e1.symm))] at ih
      show tot (fdel r n) + g.s.length = g.s.length + tot r
      omega
    · rw [if_neg e1, if_neg e1]
      show g.s.length + tot (fdel r n) + lenAt r n = g.s.length + tot r
      omega
theorem len_le_tot (fs : Fs) (n : Nm) : lenAt fs n ≤ tot fs := by
  induction fs with
  | nil => exact Nat.le_refl _
  | cons p r ih =>
    obtain ⟨m, g⟩ := p
    rw [len_cons]
    show _ ≤ g.s.length + tot r
    split <;> omega
theorem mem_le_tot {fs : Fs} {p : Nm × Fi} (h : p ∈ fs) : p.2.s.length ≤ tot fs := by
  induction fs with
  | nil => cases h
  | cons q r ih =>
    obtain ⟨m, g⟩ := q
    show _ ≤ g.s.length + tot r
    rcases List.mem_cons.1 h with h | h
    · rw [h]; exact Nat.le_add_right _ _
    · exact Nat.le_trans (ih h) (Nat.le_add_left _ _)
theorem put_len_le (fs : Fs) (n : Nm) (f : Fi) : (fput fs n f).length ≤ fs.length + 1 ∧ ((fnd fs n).isSome = true → Srt fs → (fput fs n f).length = fs.length) := by
  induction fs with
  | nil => exact ⟨Nat.le_refl _, fun h => by cases h⟩
  | cons p r ih =>
    obtain ⟨m, g⟩ := p
    unfold fput
    by_cases e1 : m = n
    · rw [if_pos e1]
      exact ⟨Nat.le_succ _, fun _ _ => rfl⟩
    · rw [if_neg e1]
      by_cases e2 : n < m
      · rw [if_pos e2]
        refine ⟨Nat.le_refl _, fun h hs => ?_⟩
        have h : (if m = n then some g else fnd r n).isSome = true := h
        rw [if_neg e1, srt_none hs (.inl e2)] at h
        cases h
      · rw [if_neg e2]
        refine ⟨Nat.succ_le_succ ih.1, fun h hs => congrArg (· + 1) (ih.2 ?_ (List.pairwise_cons.1 hs).2)⟩
        have h : (if m = n then some g else fnd r n).isSome = true := h
        rwa [if_neg e1] at h
theorem del_len_le (fs : Fs) (n : Nm) : (fdel fs n).length ≤ fs.length := (del_sub fs n).length_le
theorem del_len_some {fs : Fs} (n : Nm) (h : (fnd fs n).isSome = true) : (fdel fs n).length + 1 ≤ fs.length := by
  induction fs with
  | nil => cases h
  | cons p r ih =>
    obtain ⟨m, g⟩ := p
    unfold fdel
    by_cases e1 : m = n
    · rw [if_pos e1]; exact Nat.succ_le_succ (del_len_le r n)
    · rw [if_neg e1]
      have h : (if m = n then some g else fnd r n).isSome = true := h
      rw [if_neg e1] at h
      exact Nat.succ_le_succ (ih h)

structure Acc (c : Nat) (d : Ds) : Prop where
  srt : Srt d.fs
  use : d.used = (tot d.fs : Nat)
  room : d.used ≤ d.room
  num : d.fs.length ≤ c
  nm : ∀ p ∈ d.fs, p.1.length ≤ 40
  sok : ∀ p ∈ d.fs, p.2.sure ≤ p.2.s.length
  fq : d.fz.q.length ≤ 16
theorem Acc.mono {c c' : Nat} {d : Ds} (h : Acc c d) (hc : c ≤ c') : Acc c' d := ⟨h.srt, h.use, h.room, Nat.le_trans h.num hc, h.nm, h.sok, h.fq⟩
theorem hit_q (q : List (Int × Bool)) (a : Int) (b : Bool) : (Fz.hit q a b).2.q = q := by unfold Fz.hit; split <;> rfl
theorem next_q (z : Fz) : z.next.2.q.length ≤ z.q.length := by
  unfold Fz.next
  split
  · rw [hit_q]; exact Nat.le_refl _
  · split
    · exact Nat.le_refl _
    · rename_i h; rw [hit_q, h]; exact Nat.le_succ _
theorem Acc.fuse {c : Nat} {d : Ds} (h : Acc c d) {z : Fz} (hz : z.q.length ≤ 16) : Acc c { d with fz := z } := ⟨h.srt, h.use, h.room, h.num, h.nm, h.sok, hz⟩
theorem Acc.do_ {c c' : Nat} {d : Ds} (h : Acc c d) (hc : c ≤ c') {act : Ds → Ds} (ha : ∀ d, Acc c d → (d.fs = d.fs) → Acc c' (act d)) : Acc c' (d.do_ act).2 := by
  have hz := h.fuse (z := d.fz.next.2) (Nat.le_trans (next_q _) h.fq)
  rcases do_cases d act with ⟨_, e⟩ | ⟨_, e | e⟩ <;> rw [e]
  · exact ha _ hz rfl
  · exact ha _ hz rfl
  · exact hz.mono hc
theorem Acc.doF {c c' : Nat} {d : Ds} (h : Acc c d) (hc : c ≤ c') {act : Ds → Ds} (ha : ∀ z, z.q.length ≤ 16 → Acc c { d with fz := z } → Acc c' (act { d with fz := z })) : Acc c' (d.do_ act).2 := by
  have hq := Nat.le_trans (next_q d.fz) h.fq
  have hz := h.fuse hq
  rcases do_cases d act with ⟨_, e⟩ | ⟨_, e | e⟩ <;> rw [e]
  · exact ha _ hq hz
  · exact ha _ hq hz
  · exact hz.mono hc
theorem nm_put {fs : Fs} (h : ∀ p ∈ fs, p.1.length ≤ 40) {n : Nm} (hn : n.length ≤ 40) (f : Fi) : ∀ p ∈ fput fs n f, p.1.length ≤ 40 := fun p hp => by
  rcases put_mem hp with e | e
  · rw [e]; exact hn
  · exact h p e
theorem sk_put {fs : Fs} (h : ∀ p ∈ fs, p.2.sure ≤ p.2.s.length) {n : Nm} {f : Fi} (hf : f.sure ≤ f.s.length) : ∀ p ∈ fput fs n f, p.2.sure ≤ p.2.s.length := fun p hp => by
  rcases put_mem hp with e | e
  · rw [e]; exact hf
  · exact h p e
theorem sure_le {c : Nat} {d : Ds} (h : Acc c d) (n : Nm) : ((fnd d.fs n).getD Fi.z).sure ≤ ((fnd d.fs n).getD Fi.z).s.length := by
  cases hf : fnd d.fs n with
  | none => exact Nat.le_refl _
  | some f => exact h.sok _ (fnd_mem hf)
theorem good_len {n : Nm} (h : ¬ badName n) : n.length ≤ 40 := by
  unfold badName at h
  exact Nat.le_of_not_lt fun e => h (.inr e)
theorem Acc.append {c : Nat} {d : Ds} (h : Acc c d) (n : Nm) (s : List UInt8) : Acc (c + 1) (d.append n s).2 := by
  unfold Ds.append
  by_cases h1 : badName n
  · rw [if_pos h1]; exact h.mono (Nat.le_succ _)
  · rw [if_neg h1]
    by_cases h2 : d.free < s.length
    · rw [if_pos h2]; exact h.mono (Nat.le_succ _)
    · rw [if_neg h2]
      refine h.doF (Nat.le_succ _) fun z hz hzz => ⟨h.srt.put _ _, ?_, ?_, ?_, nm_put h.nm (good_len h1) _, sk_put h.sok (by have := sure_le h n; simp only [List.length_append]; omega), hz⟩
      · have := tot_put h.srt n ⟨((fnd d.fs n).getD Fi.z).s ++ s, ((fnd d.fs n).getD Fi.z).sure⟩
        have hu := h.use
        unfold lenAt at this
        simp only [List.length_append] at this
        show d.used + s.length = ((tot (fput d.fs n ⟨((fnd d.fs n).getD Fi.z).s ++ s, ((fnd d.fs n).getD Fi.z).sure⟩) : Nat) : Int)
        omega
      · unfold Ds.free at h2
        show d.used + s.length ≤ d.room
        omega
      · exact Nat.le_trans (put_len_le _ _ _).1 (Nat.succ_le_succ h.num)
theorem Acc.sync {c : Nat} {d : Ds} (h : Acc c d) (n : Nm) : Acc c (d.sync n).2 := by
  unfold Ds.sync
  cases hf : fnd d.fs n with
  | none => exact h
  | some f =>
    have hn := h.nm _ (fnd_mem hf)
    refine h.doF (Nat.le_refl _) fun z hz hzz => ⟨h.srt.put _ _, ?_, h.room, ?_, nm_put h.nm hn _, sk_put h.sok (Nat.le_refl _), hz⟩
    · have := tot_put h.srt n ⟨f.s, f.s.length⟩
      rw [len_some hf] at this
      have hu := h.use
      show d.used = ((tot (fput d.fs n _) : Nat) : Int)
      simp only at this
      omega
    · show (fput d.fs n _).length ≤ c
      rw [(put_len_le d.fs n _).2 (by rw [hf]; rfl) h.srt]; exact h.num
theorem Acc.truncate {c : Nat} {d : Ds} (h : Acc c d) (n : Nm) (k : Nat) : Acc c (d.truncate n k).2 := by
  unfold Ds.truncate
  cases hf : fnd d.fs n with
  | none => exact h
  | some f =>
    have hn := h.nm _ (fnd_mem hf)
    simp only
    by_cases hk : f.s.length < k
    · rw [if_pos hk]; exact h
    · rw [if_neg hk]
      have ht := tot_put h.srt n ⟨f.s.take k, k⟩
      rw [len_some hf] at ht
      simp only [List.length_take] at ht
      have hu := h.use
      have hr := h.room
      refine h.doF (Nat.le_refl _) fun z hz hzz => ⟨h.srt.put _ _, ?_, ?_, ?_, nm_put h.nm hn _, sk_put h.sok (by simp only [List.length_take]; omega), hz⟩
      · show d.used - (f.s.length - k : Nat) = ((tot (fput d.fs n _) : Nat) : Int)
        omega
      · show d.used - (f.s.length - k : Nat) ≤ d.room
        omega
      · show (fput d.fs n _).length ≤ c
        rw [(put_len_le d.fs n _).2 (by rw [hf]; rfl) h.srt]; exact h.num
theorem Acc.remove {c : Nat} {d : Ds} (h : Acc c d) (n : Nm) : Acc c (d.remove n).2 := by
  unfold Ds.remove
  cases hf : fnd d.fs n with
  | none => exact h
  | some f =>
    have ht := tot_del h.srt n
    rw [len_some hf] at ht
    have hu := h.use
    have hr := h.room
    refine h.doF (Nat.le_refl _) fun z hz hzz => ⟨h.srt.del _, ?_, ?_, Nat.le_trans (del_len_le _ _) h.num, fun p hp => h.nm p ((del_sub _ _).mem hp), fun p hp => h.sok p ((del_sub _ _).mem hp), hz⟩
    · show d.used - (f.s.length : Nat) = ((tot (fdel d.fs n) : Nat) : Int)
      omega
    · show d.used - (f.s.length : Nat) ≤ d.room
      omega
theorem Acc.rename {c : Nat} {d : Ds} (h : Acc c d) (old n : Nm) : Acc c (d.rename old n).2 := by
  unfold Ds.rename
  cases hf : fnd d.fs old with
  | none => exact h
  | some f =>
    simp only
    by_cases hb : badName n
    · rw [if_pos hb]; exact h
    · rw [if_neg hb]
      refine h.doF (Nat.le_refl _) fun z hz hzz => ?_
      by_cases he : old = n
      · simp only [if_pos he]; exact hzz
      · simp only [if_neg he]
        have h1 := tot_del h.srt old
        rw [len_some hf] at h1
        have h2 := tot_put (h.srt.del old) n f
        have h3 : lenAt (fdel d.fs old) n = lenAt d.fs n := by unfold lenAt; rw [fnd_del, if_neg (fun e => he e.symm)]
        rw [h3] at h2
        have hu := h.use
        have hr := h.room
        have h4 : lenAt d.fs n = ((fnd d.fs n).getD Fi.z).s.length := rfl
        refine ⟨(h.srt.del _).put _ _, ?_, ?_, ?_, nm_put (fun p hp => h.nm p ((del_sub _ _).mem hp)) (good_len hb) _, sk_put (fun p hp => h.sok p ((del_sub _ _).mem hp)) (h.sok _ (fnd_mem hf)), hz⟩
        · show d.used - (((fnd d.fs n).getD Fi.z).s.length : Nat) = ((tot (fput (fdel d.fs old) n f) : Nat) : Int)
          omega
        · show d.used - (((fnd d.fs n).getD Fi.z).s.length : Nat) ≤ d.room
          omega
        · have h5 := del_len_some (fs := d.fs) old (by rw [hf]; rfl)
          have h6 := (put_len_le (fdel d.fs old) n f).1
          have h7 := h.num
          show (fput (fdel d.fs old) n f).length ≤ c
          omega
theorem crash_tot (fs : Fs) (hs : ∀ p ∈ fs, p.2.sure ≤ p.2.s.length) (cs : List Int) : tot (crashF fs cs) + lost fs cs = tot fs ∧ (crashF fs cs).length = fs.length ∧ ∀ p ∈ crashF fs cs, p.2.sure = p.2.s.length := by
  induction fs generalizing cs with
  | nil => exact ⟨rfl, rfl, fun p hp => by cases hp⟩
  | cons q r ih =>
    obtain ⟨n, f⟩ := q
    have hq := hs _ (List.mem_cons_self ..)
    simp only at hq
    have ih := fun cs => ih (fun p hp => hs p (List.mem_cons_of_mem _ hp)) cs
    rw [crashF, lost]
    by_cases hl : f.s.length - f.sure = 0
    · rw [if_pos hl, if_pos hl]
      obtain ⟨h1, h2, h3⟩ := ih cs
      refine ⟨?_, congrArg (· + 1) h2, fun p hp => ?_⟩
      · show f.s.length + tot (crashF r cs) + lost r cs = f.s.length + tot r
        omega
      · rcases List.mem_cons.1 hp with e | e
        · rw [e]; show f.sure = f.s.length; omega
        · exact h3 p e
    · rw [if_neg hl, if_neg hl]
      obtain ⟨h1, h2, h3⟩ := ih cs.tail
      refine ⟨?_, congrArg (· + 1) h2, fun p hp => ?_⟩
      · show (f.s.take _).length + tot (crashF r cs.tail) + (_ + lost r cs.tail) = f.s.length + tot r
        rw [List.length_take]
        omega
      · rcases List.mem_cons.1 hp with e | e
        · rw [e]
        · exact h3 p e
theorem Acc.crash {c : Nat} {d : Ds} (h : Acc c d) (cs : List Int) : Acc c (d.crash cs) := by
  obtain ⟨h1, h2, h3⟩ := crash_tot d.fs h.sok cs
  have hu := h.use
  have hr := h.room
  have hmap := crash_names d.fs cs
  refine ⟨?_, ?_, ?_, by show (crashF d.fs cs).length ≤ c; rw [h2]; exact h.num, fun p hp => ?_, fun p hp => Nat.le_of_eq (h3 p hp), Nat.zero_le _⟩
  · have := List.pairwise_map.2 h.srt
    rw [← hmap] at this
    exact List.pairwise_map.1 this
  · show d.used - (lost d.fs cs : Nat) = ((tot (crashF d.fs cs) : Nat) : Int)
    omega
  · show d.used - (lost d.fs cs : Nat) ≤ d.room
    omega
  · have : p.1 ∈ (crashF d.fs cs).map (·.1) := List.mem_map_of_mem hp
    rw [hmap] at this
    obtain ⟨q, hq, e⟩ := List.mem_map.1 this
    rw [← e]; exact h.nm q hq
theorem Acc.openS {c : Nat} {d : Ds} (h : Acc c d) (n : Nat) : Acc c (openS d n).2 := by
  unfold Wal.openS
  split
  · exact h.truncate _ _
  · exact h.sync _
theorem Acc.openL {c : Nat} : ∀ (l : List Nat) {d : Ds} (all : List Rc) (seg size : Nat), Acc c d → Acc c (openL l d all seg size).2.1
  | [], d, all, seg, size, h => h
  | n :: l, d, all, seg, size, h => by
    rw [Wal.openL]
    split
    · exact h
    · split
      · exact h.openS n
      · exact Acc.openL l _ _ _ (h.openS n)
theorem Acc.wOpen {c : Nat} {d : Ds} (h : Acc c d) (limit : Int) : Acc c (wOpen d limit).2.1 := by
  unfold Wal.wOpen
  split
  · exact Acc.openL _ _ _ _ h
  · exact Acc.openL _ _ _ _ h
theorem Acc.wAppend {c : Nat} {d : Ds} (h : Acc c d) (g : Lg) (rs : List Rc) : Acc (c + 1) (wAppend d g rs).2.1 := by
  unfold Wal.wAppend
  split
  · exact h.mono (Nat.le_succ _)
  · split
    · exact h.mono (Nat.le_succ _)
    · split
      · exact h.mono (Nat.le_succ _)
      · simp only
        split
        · split
          · exact h.append _ _
          · exact (h.append _ _).sync _
        · split
          · exact h.append _ _
          · exact (h.append _ _).sync _
theorem Acc.unTmp {c : Nat} {d : Ds} (h : Acc c d) : Acc c (unTmp d).2 := by
  unfold Wal.unTmp
  split
  · exact h.remove _
  · exact h
theorem Acc.fresh {c : Nat} {d : Ds} (h : Acc c d) (n : Nm) (s : List UInt8) : Acc (c + 1) (fresh d n s).2 := by
  unfold Wal.fresh
  split
  · exact h.unTmp.mono (Nat.le_succ _)
  · split
    · exact h.unTmp.append _ _
    · split
      · exact (h.unTmp.append _ _).sync _
      · exact ((h.unTmp.append _ _).sync _).rename _ _
theorem Acc.removeL {c : Nat} : ∀ (l : List Nat) {d : Ds}, Acc c d → Acc c (removeL l d).2
  | [], d, h => h
  | n :: l, d, h => by
    rw [Wal.removeL]
    split
    · exact h.remove _
    · exact Acc.removeL l (h.remove _)
theorem Acc.wRestart {c : Nat} {d : Ds} (h : Acc c d) (g : Lg) (rs : List Rc) : Acc (c + 1) (wRestart d g rs).2.1 := by
  unfold Wal.wRestart
  split
  · exact h.mono (Nat.le_succ _)
  · split
    · exact h.mono (Nat.le_succ _)
    · simp only
      split
      · exact h.fresh _ _
      · exact Acc.removeL _ (h.fresh _ _)
end Go.Bar.Wal

/-
  Layer 4 (disk): a disk in memory: what it is, what a call may turn. Plain lemmas; no condition.
-/
namespace Go.Bar.Wal
open Go.RowKit Go.Bar Go.Proofs Go.Conc

structure Hd where
  D : Nat
  U : Nat
  C : Nat
  M : Nat
def qV (q : List (Int × Bool)) : Array Value := (q.map fun x => Value.agg #[.int .i64 x.1, .bool x.2]).toArray
theorem qV_size (q : List (Int × Bool)) : (qV q).size = q.length := by unfold qV; simp
theorem qV_tail (a : Int) (b : Bool) (q : List (Int × Bool)) : (qV ((a, b) :: q)).extract 1 (qV ((a, b) :: q)).size = qV q := by
  unfold qV; simp [List.take_of_length_le]
theorem qV_head (a : Int) (b : Bool) (q : List (Int × Bool)) : (qV ((a, b) :: q)).getD 0 undef = .agg #[.int .i64 a, .bool b] := by
  unfold qV; simp
theorem qV_push (a : Int) (b : Bool) (q : List (Int × Bool)) : (qV q).push (.agg #[.int .i64 a, .bool b]) = qV (q ++ [(a, b)]) := by
  unfold qV; simp
def Rng (x : Int × Bool) : Prop := 0 ≤ x.1 ∧ x.1 ≤ 9223372036854775807
def DTs (T : TypeId) : Prop := T = 43 ∨ T = 92 ∨ T = 94
def DT0 (T : TypeId) : Prop := T = 43 ∨ T = 92
theorem dt0 : ∀ T, DT0 T → DTs T := fun _ h => h.elim .inl fun h => .inr (.inl h)
def NDk (T : TypeId) : Prop := T ≠ 43 ∧ T ≠ 92
structure DkC (w : World) (h : Hd) (fs : Fs) (room used : Int) (q : List (Int × Bool)) (a : Int) (b arm : Bool) : Prop where
  dk : Blk w h.D 43 #[.pointer (some ⟨h.U, 0, none⟩), .map (some h.M), .int .i64 room, .int .i64 used]
  fu : Blk w h.U 92 #[.chan (some h.C), .int .i64 a, .bool b, .bool arm]
  ch : ∃ s r, w.heap[h.C]? = some (.chan 16 (qV q) false s r false)
  mp : FmAt Tryz.prog 9 w h.M fs
section
variable {w w' : World} {h : Hd} {fs : Fs} {room used : Int} {q : List (Int × Bool)} {a : Int} {b arm : Bool}
theorem DkC.keep (k : DkC w h fs room used q a b arm) (h1 : w'.heap[h.D]? = w.heap[h.D]?) (h2 : w'.heap[h.U]? = w.heap[h.U]?) (h3 : w'.heap[h.C]? = w.heap[h.C]?) (h4 : w'.heap[h.M]? = w.heap[h.M]?) : DkC w' h fs room used q a b arm :=
  ⟨h1.trans k.dk, h2.trans k.fu, (by obtain ⟨s, r, e⟩ := k.ch; exact ⟨s, r, h3.trans e⟩), k.mp.block h4⟩
theorem DkC.ltC (k : DkC w h fs room used q a b arm) : h.C < w.heap.size := by obtain ⟨s, r, e⟩ := k.ch; exact (Array.getElem?_eq_some_iff.1 e).1
theorem DkC.below (k : DkC w h fs room used q a b arm) (hb : Below w.heap.size w w') : DkC w' h fs room used q a b arm :=
  k.keep (hb.block _ k.dk.lt) (hb.block _ k.fu.lt) (hb.block _ k.ltC) (hb.block _ k.mp.lt)
theorem DkC.nDU (k : DkC w h fs room used q a b arm) : h.D ≠ h.U := fun e => by
  have h1 := k.dk
  have h2 := k.fu
  rw [e] at h1
  unfold Blk at h1 h2
  rw [h1] at h2
  injection h2 with h2
  injection h2 with _ h2 _
  exact absurd h2 (by decide)
theorem DkC.nDC (k : DkC w h fs room used q a b arm) : h.D ≠ h.C := fun e => by
  have h1 := k.dk
  obtain ⟨s, r, h2⟩ := k.ch
  unfold Blk at h1
  rw [e, h2] at h1
  cases h1
theorem DkC.nUC (k : DkC w h fs room used q a b arm) : h.U ≠ h.C := fun e => by
  have h1 := k.fu
  obtain ⟨s, r, h2⟩ := k.ch
  unfold Blk at h1
  rw [e, h2] at h1
  cases h1
theorem DkC.nMC (k : DkC w h fs room used q a b arm) : h.M ≠ h.C := fun e => by
  obtain ⟨es, cl, h1⟩ := k.mp.is_map
  obtain ⟨s, r, h2⟩ := k.ch
  rw [e, h2] at h1
  cases h1
theorem DkC.nMD (k : DkC w h fs room used q a b arm) : h.M ≠ h.D := fun e => by
  obtain ⟨es, cl, h1⟩ := k.mp.is_map
  have h2 := k.dk
  unfold Blk at h2
  rw [e, h2] at h1
  cases h1
theorem DkC.nMU (k : DkC w h fs room used q a b arm) : h.M ≠ h.U := fun e => by
  obtain ⟨es, cl, h1⟩ := k.mp.is_map
  have h2 := k.fu
  unfold Blk at h2
  rw [e, h2] at h1
  cases h1
theorem DkC.other (k : DkC w h fs room used q a b arm) {L : Nat} {T : TypeId} {cur : Array Value} (hb : Blk w L T cur) (hT : NDk T) (i : Nat) (u : Value) : DkC (w.setCell ⟨L, i, none⟩ u) h fs room used q a b arm := by
  have n1 : h.D ≠ L := fun e => by
    have h1 := k.dk
    unfold Blk at h1 hb
    rw [e, hb] at h1
    injection h1 with h1
    injection h1 with _ h1 _
    exact hT.1 h1
  have n2 : h.U ≠ L := fun e => by
    have h1 := k.fu
    unfold Blk at h1 hb
    rw [e, hb] at h1
    injection h1 with h1
    injection h1 with _ h1 _
    exact hT.2 h1
  have n3 : h.C ≠ L := fun e => by
    obtain ⟨s, r, h2⟩ := k.ch
    unfold Blk at hb
    rw [e, hb] at h2
    cases h2
  have n4 : h.M ≠ L := fun e => by
    obtain ⟨es, cl, h1⟩ := k.mp.is_map
    unfold Blk at hb
    rw [e, hb] at h1
    cases h1
  exact k.keep (Below.heap_setCell w ⟨L, i, none⟩ u _ n1) (Below.heap_setCell w ⟨L, i, none⟩ u _ n2) (Below.heap_setCell w ⟨L, i, none⟩ u _ n3) (Below.heap_setCell w ⟨L, i, none⟩ u _ n4)
theorem DkC.ap (k : DkC w h fs room used q a b arm) {e : TypeId} {sz n : Nat} {v : Value} {xs : List Value} (hb : Buf w e sz v n xs) (ha : Ap w w' sz v) (hT : NDk e) : DkC w' h fs room used q a b arm := by
  refine ⟨k.dk.ap hb ha (fun c => hT.1 c), k.fu.ap hb ha (fun c => hT.2 c), ?_, k.mp.fr (Fr.of_ap (S := fun _ _ => True) ha fun _ _ _ => trivial)⟩
  obtain ⟨s, r, hc⟩ := k.ch
  refine ⟨s, r, ?_⟩
  rcases ha.block _ k.ltC with h1 | ⟨o, n', c, cur1, cur', e1, fr, rfl, hw, _⟩
  · exact h1.trans hc
  · rw [hc] at hw; cases hw
theorem DkC.setU (k : DkC w h fs room used q a b arm) (i : Nat) (u : Value) {a' : Int} {b' arm' : Bool} (hu : (#[Value.chan (some h.C), .int .i64 a, .bool b, .bool arm].setIfInBounds i u) = #[.chan (some h.C), .int .i64 a', .bool b', .bool arm']) : DkC (w.setCell ⟨h.U, i, none⟩ u) h fs room used q a' b' arm' := by
  refine ⟨k.dk.other k.nDU i u, ?_, ?_, k.mp.set h.U i u⟩
  · have := k.fu.set i u; rwa [hu] at this
  · obtain ⟨s, r, e⟩ := k.ch
    exact ⟨s, r, (Below.heap_setCell w ⟨h.U, i, none⟩ u _ k.nUC.symm).trans e⟩
theorem DkC.setD (k : DkC w h fs room used q a b arm) (n : Int) : DkC (w.setCell ⟨h.D, 3, none⟩ (.int .i64 n)) h fs room n q a b arm := by
  refine ⟨k.dk.set 3 _, k.fu.other k.nDU.symm 3 _, ?_, k.mp.set h.D 3 _⟩
  obtain ⟨s, r, e⟩ := k.ch
  exact ⟨s, r, (Below.heap_setCell w ⟨h.D, 3, none⟩ _ _ k.nDC.symm).trans e⟩
theorem DkC.chan (k : DkC w h fs room used q a b arm) {q' : List (Int × Bool)} (s r : Nat) : DkC (w.setChan h.C 16 (qV q') false s r false) h fs room used q' a b arm := by
  have g : ∀ j, j ≠ h.C → (w.setChan h.C 16 (qV q') false s r false).heap[j]? = w.heap[j]? := fun j hj => by
    show (w.heap.setIfInBounds h.C _)[j]? = _
    rw [Array.getElem?_setIfInBounds_ne (Ne.symm hj)]
  exact ⟨(g _ k.nDC).trans k.dk, (g _ k.nUC).trans k.fu, ⟨s, r, heap_setChan w h.C 16 (qV q') false s r false k.ltC⟩, k.mp.block (g _ k.nMC)⟩
theorem DkC.files (k : DkC w h fs room used q a b arm) {fs' : Fs} (hm : FmAt Tryz.prog 9 w' h.M fs') (hg : w.grownBy w' (some h.M)) : DkC w' h fs' room used q a b arm := by
  have g : ∀ j, j < w.heap.size → j ≠ h.M → w'.heap[j]? = w.heap[j]? := fun j hj hn => hg.block j hj (fun e => by injection e with e; exact hn e)
  refine ⟨(g _ k.dk.lt k.nMD.symm).trans k.dk, (g _ k.fu.lt k.nMU.symm).trans k.fu, ?_, hm⟩
  obtain ⟨s, r, e⟩ := k.ch
  exact ⟨s, r, (g _ k.ltC k.nMC.symm).trans e⟩
end
structure DkAt (w : World) (h : Hd) (d : Ds) : Prop where
  c : ∃ a b, DkC w h d.fs d.room d.used d.fz.q a b d.fz.now.isSome ∧ ∀ x, d.fz.now = some x → x = (a, b)
  rq : ∀ x ∈ d.fz.q, Rng x
  rn : ∀ x, d.fz.now = some x → Rng x
structure Hd.Hi (h : Hd) (B : Nat) : Prop where
  d : B ≤ h.D
  u : B ≤ h.U
  c : B ≤ h.C
  m : B ≤ h.M
structure Off (Ts : TypeId → Prop) (B : Nat) (w w' : World) : Prop where
  kc : Kc Ts w w'
  bel : Below B w w'
section
variable {Ts : TypeId → Prop} {B : Nat} {w w' w'' : World} {h : Hd} {d : Ds}
theorem Off.refl (Ts : TypeId → Prop) (B : Nat) (w : World) : Off Ts B w w := ⟨Kc.refl Ts w, Below.refl B w⟩
theorem Off.trans (h1 : Off Ts B w w') (h2 : Off Ts B w' w'') : Off Ts B w w'' := ⟨h1.kc.trans h2.kc, h1.bel.trans h2.bel⟩
theorem Off.size (h1 : Off Ts B w w') : w.heap.size ≤ w'.heap.size := h1.kc.size
theorem Off.of_below (hb : Below w.heap.size w w') (hB : B ≤ w.heap.size) : Off Ts B w w' := ⟨Kc.of_below hb, hb.mono hB⟩
theorem Off.wide {Us : TypeId → Prop} (h1 : Off Ts B w w') (hs : ∀ T, Ts T → Us T) : Off Us B w w' := ⟨h1.kc.wide hs, h1.bel⟩
theorem Off.set {M : Nat} {T : TypeId} {cur : Array Value} (hb : Blk w M T cur) (hT : Ts T) (hB : B ≤ M) (i : Nat) (u : Value) : Off Ts B w (w.setCell ⟨M, i, none⟩ u) := ⟨Kc.of_set hb hT i u, (Below.refl B w).setCell hB u⟩
theorem Off.chan {c : Nat} {cap : Nat} {buf : Array Value} {cl : Bool} {s r : Nat} {tm : Bool} (hc : w.heap[c]? = some (.chan cap buf cl s r tm)) (hB : B ≤ c) (cap' : Nat) (buf' : Array Value) (cl' : Bool) (s' r' : Nat) (tm' : Bool) : Off Ts B w (w.setChan c cap' buf' cl' s' r' tm') :=
  ⟨Kc.of_chan hc .., below_setChan (Below.refl B w) hB ..⟩
theorem Off.map {b : Nat} (hb : ∃ es clock, w.heap[b]? = some (.map es clock)) (hg : w.grownBy w' (some b)) (hB : B ≤ b) (hs : B ≤ w.heap.size) : Off Ts B w w' :=
  ⟨Kc.of_map hb hg, ⟨hg.os, hg.tape, hg.output, hg.size, fun k hk => hg.block k (Nat.lt_of_lt_of_le hk hs) (fun e => by injection e with e; omega)⟩⟩
theorem DkAt.below (k : DkAt w h d) (hb : Below w.heap.size w w') : DkAt w' h d := by
  obtain ⟨⟨a, b, k1, k2⟩, k3, k4⟩ := k
  exact ⟨⟨a, b, k1.below hb, k2⟩, k3, k4⟩
theorem DkAt.other (k : DkAt w h d) {L : Nat} {T : TypeId} {cur : Array Value} (hb : Blk w L T cur) (hT : NDk T) (i : Nat) (u : Value) : DkAt (w.setCell ⟨L, i, none⟩ u) h d := by
  obtain ⟨⟨a, b, k1, k2⟩, k3, k4⟩ := k
  exact ⟨⟨a, b, k1.other hb hT i u, k2⟩, k3, k4⟩
theorem DkAt.ap (k : DkAt w h d) {e : TypeId} {sz n : Nat} {v : Value} {xs : List Value} (hb : Buf w e sz v n xs) (ha : Ap w w' sz v) (hT : NDk e) : DkAt w' h d := by
  obtain ⟨⟨a, b, k1, k2⟩, k3, k4⟩ := k
  exact ⟨⟨a, b, k1.ap hb ha hT, k2⟩, k3, k4⟩
theorem Hd.Hi.mono {B B' : Nat} (k : h.Hi B) (hb : B' ≤ B) : h.Hi B' := ⟨Nat.le_trans hb k.d, Nat.le_trans hb k.u, Nat.le_trans hb k.c, Nat.le_trans hb k.m⟩
end
structure DkT (Ts : TypeId → Prop) (B : Nat) (w : World) (h : Hd) (d : Ds) (v : Value) (en : Ending) (w' : World) : Prop where
  ret : en = .returned v
  at_ : DkAt w' h d
  off : Off Ts B w w'
abbrev DkTo := DkT DTs
theorem DkT.wide {Ts Us : TypeId → Prop} {B : Nat} {w w' : World} {h : Hd} {d : Ds} {v : Value} {en : Ending} (k : DkT Ts B w h d v en w') (hs : ∀ T, Ts T → Us T) : DkT Us B w h d v en w' := ⟨k.ret, k.at_, k.off.wide hs⟩
end Go.Bar.Wal

/-
  Layer 4 (disk): the fuse: a call is tried; a fault is armed; all are cleared.
-/
namespace Go.Proofs.YtcopknopifbebaaGreatDoor
open Go.RowKit Go.Bar Go.Bar.Wal Go.Conc
attribute [local go_sem] Oper.semAt_some

theorem zero_fault (w : World) : (zeroValue 90).run Tryz.prog w = .ok (.agg #[.int .i64 0, .bool false]) w := by
  go_simp
section
variable {w : World} {h : Hd} {fs : Fs} {room used : Int} {q : List (Int × Bool)} {a : Int} {b arm : Bool} {B : Nat}
theorem offU (k : DkC w h fs room used q a b arm) (hB : h.Hi B) (i : Nat) (u : Value) : Off DT0 B w (w.setCell ⟨h.U, i, none⟩ u) := Off.set k.fu (.inr rfl) hB.u i u
theorem offD0 (k : DkC w h fs room used q a b arm) (hB : h.Hi B) (i : Nat) (u : Value) : Off DT0 B w (w.setCell ⟨h.D, i, none⟩ u) := Off.set k.dk (.inl rfl) hB.d i u
theorem offD (k : DkC w h fs room used q a b arm) (hB : h.Hi B) (i : Nat) (u : Value) : Off DTs B w (w.setCell ⟨h.D, i, none⟩ u) := (offD0 k hB i u).wide dt0
theorem hiW (k : DkC w h fs room used q a b arm) (hB : h.Hi B) : B ≤ w.heap.size := Nat.le_trans hB.d (Nat.le_of_lt k.dk.lt)
end
set_option maxHeartbeats 4000000 in
set_option maxRecDepth 10000 in
theorem try_armed (w : World) (h : Hd) (fs : Fs) (room used : Int) (q : List (Int × Bool)) (a : Int) (b : Bool) (B : Nat) (k : DkC w h fs room used q a b true) (hB : h.Hi B) (ha : 0 ≤ a) (ha2 : a ≤ 9223372036854775807) :
    Calls Tryz.prog 84 #[.pointer (some ⟨h.U, 0, none⟩)] w fun e w' => e = .returned (.tuple #[.bool (decide (0 < a)), .bool (decide (0 < a) || b)]) ∧ DkC w' h fs room used q (if 0 < a then a - 1 else a) b (decide (0 < a)) ∧ Off DT0 B w w' := by
  have c0 := k.fu.cell (i := 0) rfl
  have c1 := k.fu.cell (i := 1) rfl
  have c2 := k.fu.cell (i := 2) rfl
  have c3 := k.fu.cell (i := 3) rfl
  have f1 := k.fu.free 1
  have f3 := k.fu.free 3
  by_cases h0 : 0 < a
  · go_enter Tryz.func84, Tryz.ntmps84
    go_wp2_with fail
    go_ret2
    exact ⟨rfl, k.setU 1 _ rfl, offU k hB 1 _⟩
  · have h1 : a = 0 := by omega
    subst h1
    clear h0 ha ha2
    go_enter Tryz.func84, Tryz.ntmps84
    go_upto_region 11 with fail
    go_quiet (fail)
    go_wp2_with fail
    go_ret2
    have k1 := k.setU (a' := 0) (b' := b) (arm' := false) 3 (.bool false) rfl
    exact ⟨rfl, k1.below (below_draws _ _), (offU k hB 3 _).trans (Off.of_below (below_draws _ _) (hiW k1 hB))⟩
set_option maxHeartbeats 4000000 in
set_option maxRecDepth 10000 in
theorem try_calm (w : World) (h : Hd) (fs : Fs) (room used : Int) (a : Int) (b : Bool) (k : DkC w h fs room used [] a b false) :
    Calls Tryz.prog 84 #[.pointer (some ⟨h.U, 0, none⟩)] w fun e w' => e = .returned (.tuple #[.bool true, .bool true]) ∧ w = w' := by
  have c0 := k.fu.cell (i := 0) rfl
  have c3 := k.fu.cell (i := 3) rfl
  obtain ⟨s, r, hc⟩ := k.ch
  have hc : w.heap[h.C]? = some (.chan 16 #[] false s r false) := hc
  go_enter Tryz.func84, Tryz.ntmps84
  go_upto_region 3 with fail
  refine wp_region_sel_none rfl rfl (zero_fault _) rfl hc ?_
  go_wp2_with fail
  go_ret2
  exact ⟨rfl, rfl⟩
set_option maxHeartbeats 4000000 in
set_option maxRecDepth 10000 in
theorem try_next (w : World) (h : Hd) (fs : Fs) (room used : Int) (q : List (Int × Bool)) (a0 : Int) (b0 : Bool) (a : Int) (b : Bool) (B : Nat) (k : DkC w h fs room used ((a0, b0) :: q) a b false) (hB : h.Hi B) (ha : 0 ≤ a0) (ha2 : a0 ≤ 9223372036854775807) :
    Calls Tryz.prog 84 #[.pointer (some ⟨h.U, 0, none⟩)] w fun e w' => e = .returned (.tuple #[.bool (decide (0 < a0)), .bool (decide (0 < a0) || b0)]) ∧ DkC w' h fs room used q (if 0 < a0 then a0 - 1 else a0) b0 (decide (0 < a0)) ∧ Off DT0 B w w' := by
  have c0 := k.fu.cell (i := 0) rfl
  have c3 := k.fu.cell (i := 3) rfl
  obtain ⟨s, r, hc⟩ := k.ch
  obtain ⟨W1, hW1⟩ : ∃ W1, W1 = w.setChan h.C 16 (qV q) false s (r + 1) false := ⟨_, rfl⟩
  have k1 : DkC W1 h fs room used q a b false := by rw [hW1]; exact k.chan s (r + 1)
  have o1 : Off DT0 B w W1 := by rw [hW1]; exact Off.chan hc hB.c ..
  have k2 := k1.setU (a' := a0) 1 (.int .i64 a0) rfl
  have o2 := offU k1 hB 1 (.int .i64 a0)
  have k3 := k2.setU (b' := b0) 2 (.bool b0) rfl
  have o3 := offU k2 hB 2 (.bool b0)
  have k4 := k3.setU (arm' := true) 3 (.bool true) rfl
  have o4 := offU k3 hB 3 (.bool true)
  have d0 := k1.fu.cell (i := 0) rfl
  have d1 := k1.fu.cell (i := 1) rfl
  have d2 := k1.fu.cell (i := 2) rfl
  have d3 := k1.fu.cell (i := 3) rfl
  have f1 := k1.fu.free 1
  have f2 := k1.fu.free 2
  have f3 := k1.fu.free 3
  by_cases h0 : 0 < a0
  · go_enter Tryz.func84, Tryz.ntmps84
    go_upto_region 3 with fail
    refine wp_region_sel_recv rfl rfl ⟨_, zero_fault _⟩ rfl hc (by rw [qV_size]; exact Nat.succ_pos _) ?_
    rw [qV_head, qV_tail, ← hW1]
    clear hW1 hc
    go_wp2_with fail
    go_ret2
    exact ⟨rfl, k4.setU 1 _ rfl, (((o1.trans o2).trans o3).trans o4).trans (offU k4 hB 1 _)⟩
  · have h1 : a0 = 0 := by omega
    subst h1
    clear h0 ha ha2
    go_enter Tryz.func84, Tryz.ntmps84
    go_upto_region 3 with fail
    refine wp_region_sel_recv rfl rfl ⟨_, zero_fault _⟩ rfl hc (by rw [qV_size]; exact Nat.succ_pos _) ?_
    rw [qV_head, qV_tail, ← hW1]
    clear hW1 hc
    go_upto_region 11 with fail
    go_quiet (fail)
    go_wp2_with fail
    go_ret2
    have k5 := k4.setU (arm' := false) 3 (.bool false) rfl
    exact ⟨rfl, k5.below (below_draws _ _), ((((o1.trans o2).trans o3).trans o4).trans (offU k4 hB 3 _)).trans (Off.of_below (below_draws _ _) (hiW k5 hB))⟩
theorem try_any (w : World) (h : Hd) (d : Ds) (B : Nat) (k : DkAt w h d) (hB : h.Hi B) :
    Calls Tryz.prog 84 #[.pointer (some ⟨h.U, 0, none⟩)] w (DkT DT0 B w h { d with fz := d.fz.next.2 } (.tuple #[.bool d.fz.next.1.1, .bool d.fz.next.1.2])) := by
  obtain ⟨fs, room, used, ⟨q, now⟩⟩ := d
  obtain ⟨⟨a, b, k1, k2⟩, k3, k4⟩ := k
  simp only at k1 k2 k3 k4
  have hit : ∀ (q : List (Int × Bool)) (a : Int) (b : Bool) (e : Ending) (w' : World), Rng (a, b) → (∀ x ∈ q, Rng x) → (e = .returned (.tuple #[.bool (decide (0 < a)), .bool (decide (0 < a) || b)]) ∧ DkC w' h fs room used q (if 0 < a then a - 1 else a) b (decide (0 < a)) ∧ Off DT0 B w w') →
      DkT DT0 B w h { fs := fs, room := room, used := used, fz := (Fz.hit q a b).2 } (.tuple #[.bool (Fz.hit q a b).1.1, .bool (Fz.hit q a b).1.2]) e w' := by
    rintro q a b e w' hr hq ⟨rfl, h1, h2⟩
    unfold Fz.hit
    by_cases h0 : 0 < a
    · simp only [h0, if_true, decide_true, Bool.true_or] at h1 ⊢
      refine ⟨rfl, ⟨⟨_, _, h1, fun x hx => ?_⟩, hq, fun x hx => ?_⟩, h2⟩
      · injection hx with hx; exact hx.symm
      · injection hx with hx
        subst hx
        have := hr.1
        have := hr.2
        exact ⟨by simp only; omega, by simp only at *; omega⟩
    · simp only [h0, if_false, decide_false, Bool.false_or] at h1 ⊢
      refine ⟨rfl, ⟨⟨_, _, h1, fun x hx => (by cases hx)⟩, hq, fun x hx => (by cases hx)⟩, h2⟩
  cases now with
  | some x =>
    have := k2 x rfl
    subst this
    have hr := k4 _ rfl
    exact (try_armed w h fs room used q a b B k1 hB hr.1 hr.2).mono fun e w' hh => hit q a b e w' hr k3 hh
  | none =>
    cases q with
    | nil =>
      refine (try_calm w h fs room used a b k1).mono fun e w' hh => ?_
      obtain ⟨rfl, rfl⟩ := hh
      exact ⟨rfl, ⟨⟨a, b, k1, k2⟩, k3, k4⟩, Off.refl _ _ _⟩
    | cons x q =>
      obtain ⟨a0, b0⟩ := x
      have hr := k3 _ (List.mem_cons_self ..)
      exact (try_next w h fs room used q a0 b0 a b B k1 hB hr.1 hr.2).mono fun e w' hh => hit q a0 b0 e w' hr (fun x hx => k3 x (List.mem_cons_of_mem _ hx)) hh
set_option maxHeartbeats 4000000 in
set_option maxRecDepth 10000 in
theorem arm_any (w : World) (h : Hd) (d : Ds) (B : Nat) (n : Int) (dn : Bool) (k : DkAt w h d) (hB : h.Hi B) (hn : n ≤ 9223372036854775807) :
    Calls Tryz.prog 18 #[.pointer (some ⟨h.U, 0, none⟩), .int .i64 n, .bool dn] w (DkT DT0 B w h { d with fz := (d.fz.arm n dn).2 } (.int .i64 ((d.fz.arm n dn).1 : Nat))) := by
  obtain ⟨fs, room, used, ⟨q, now⟩⟩ := d
  obtain ⟨⟨a, b, k1, k2⟩, k3, k4⟩ := k
  simp only at k1 k2 k3 k4
  have c0 := k1.fu.cell (i := 0) rfl
  obtain ⟨s, r, hc⟩ := k1.ch
  unfold Fz.arm
  simp only
  by_cases hq : q.length < 16
  · simp only [hq, if_true]
    have fin : ∀ m : Int, m = max n 0 → DkT DT0 B w h { fs := fs, room := room, used := used, fz := { q := q ++ [(max n 0, dn)], now := now } } (.int .i64 0) (.returned (.int .i64 0)) (w.setChan h.C 16 ((qV q).push (.agg #[.int .i64 m, .bool dn])) false (s + 1) r false) := by
      intro m hm
      rw [qV_push, hm]
      refine ⟨rfl, ⟨⟨a, b, k1.chan (s + 1) r, k2⟩, fun x hx => ?_, k4⟩, Off.chan hc hB.c ..⟩
      rcases List.mem_append.1 hx with hx | hx
      · exact k3 x hx
      · rw [List.mem_singleton] at hx
        rw [hx]
        exact ⟨by simp only; omega, by simp only; omega⟩
    replace fin := Lib.hid fin
    have hq' : q.length < 16 := hq
    clear hq
    go_enter Tryz.func18, Tryz.ntmps18
    go_upto_region 3 with fail
    refine wp_region_sel_send rfl rfl (zero_fault _) rfl rfl hc (by rw [qV_size]; exact hq') ?_
    go_wp2_with fail
    all_goals (go_ret; exact fin _ (by omega))
  · simp only [hq, if_false]
    have hq' : 16 ≤ q.length := Nat.le_of_not_lt hq
    clear hq
    go_enter Tryz.func18, Tryz.ntmps18
    go_upto_region 3 with fail
    refine wp_region_sel_full rfl rfl (zero_fault _) rfl rfl hc (by rw [qV_size]; exact hq') ?_
    go_wp2_with fail
    all_goals (go_ret; exact ⟨rfl, ⟨⟨a, b, k1, k2⟩, k3, k4⟩, Off.refl _ _ _⟩)
end Go.Proofs.YtcopknopifbebaaGreatDoor

/-
  Layer 11 (wal): plain: what the laws say of a log, step by step: segments; a disk of little room; no program in sight; no condition.
-/
namespace Go.Bar.Wal
open Go.RowKit Go.Bar Go.Bar.Leb Go.Bar.Frm

theorem range_last {k : Nat} (h : 0 < k) : (List.range' 1 k).getLast? = some k := by
  rw [List.getLast?_range', if_neg (by omega)]
  congr 1; omega
theorem range_snoc (k : Nat) : List.range' 1 (k + 1) = List.range' 1 k ++ [k + 1] := by
  rw [List.range'_concat]
  simp only [Nat.one_mul]
  rw [Nat.add_comm 1 k]

def Ds.new (room : Int) : Ds := ⟨[], max room 0, 0, Fz.none_⟩
theorem Acc.new (room : Int) : Acc 0 (Ds.new room) := ⟨List.Pairwise.nil, rfl, by show (0 : Int) ≤ max room 0; omega, Nat.le_refl _, fun p hp => (by cases hp), fun p hp => (by cases hp), Nat.zero_le _⟩
theorem open_new (room limit : Int) : wOpen (Ds.new room) limit = (0, Ds.new room, ⟨max limit 1, 1, 0, false⟩, []) ∧ LG (Ds.new room) ⟨max limit 1, 1, 0, false⟩ [] (fun _ => []) := by
  have h : LI (Ds.new room).fs [] (fun _ => []) [] 0 := LI.empty
  refine ⟨?_, h, rfl, .inr ⟨rfl, rfl⟩, Nat.le_refl _⟩
  unfold wOpen
  rw [h.segs]
  rfl

structure SegI (lim : Int) (c one U : Nat) (d : Ds) (g : Lg) : Prop where
  ex : ∃ k A, LG d g (List.range' 1 k) A ∧ k ≤ c ∧ (k = 0 → g.seg = 1) ∧ ∀ n ∈ List.range' 1 k, ((laid (A n)).length : Int) ≤ max lim one
  z : d.fz = Fz.none_
  lm : g.limit = lim
  acc : Acc c d
  rm : d.room = 1048576
  us : d.used ≤ U
theorem SegI.app {lim : Int} {c one U : Nat} {d : Ds} {g : Lg} {rs : List Rc} (h : SegI lim c one U d g) (hrs : ∀ r ∈ rs, r.2.length ≤ 1048576) (hU : U + (laid rs).length ≤ 1048576) (hc : c < 1000) :
    ∃ d' g', wAppend d g rs = (0, d', g') ∧ SegI lim (c + 1) (max one (laid rs).length) (U + (laid rs).length) d' g' := by
  obtain ⟨⟨k, A, hl, hk, hk0, hA⟩, hz, hlm, hacc, hrm, hus⟩ := h
  have hseg : g.seg ≤ k + 1 := by
    rcases Nat.eq_zero_or_pos k with e | e
    · have := hk0 e; omega
    · rcases hl.at_ with ⟨h1, _⟩ | ⟨h1, _⟩
      · rw [range_last e] at h1
        have := Option.some.inj h1; omega
      · rw [List.range'_eq_nil_iff] at h1; omega
  have ha := append_any hl hrs (by unfold Ds.free; omega) (by omega)
  have hcalm := ha.calm hz
  have hacc' := hacc.wAppend g rs
  have hu := ha.used
  have hr := ha.room
  have hlim := ha.lim
  have hok := ha.ok hcalm.1
  obtain ⟨e, d', g', he⟩ : ∃ e d' g', wAppend d g rs = (e, d', g') := ⟨_, _, _, rfl⟩
  rw [he] at hcalm hacc' hu hr hlim hok
  simp only at hcalm hacc' hu hr hlim hok
  obtain ⟨rfl, hz'⟩ := hcalm
  refine ⟨d', g', he, ?_, hz', hlim.trans hlm, hacc', hr.trans hrm, by omega⟩
  rcases hok with ⟨rfl, rfl, rfl⟩ | ⟨ns', A', hgo, hl', _⟩
  · exact ⟨k, A, hl, by omega, hk0, fun n hn => by have := hA n hn; omega⟩
  · generalize g'.seg = q at hgo
    cases hgo with
    | here h1 hs =>
      have hkp : 0 < k := by
        rcases Nat.eq_zero_or_pos k with e | e
        · rw [e] at h1; cases h1
        · exact e
      refine ⟨k, _, hl', by omega, fun e => by omega, fun n hn => ?_⟩
      have h2 := hA n hn
      by_cases e : n = g.seg
      · subst e
        rw [updA_self, laid_append, List.length_append]
        have hsz : g.size = (laid (A g.seg)).length := by
          rcases hl.at_ with ⟨_, h3⟩ | ⟨h3, _⟩
          · exact h3
          · rw [List.range'_eq_nil_iff] at h3; omega
        rcases hs with hs | hs <;> omega
      · rw [updA_ne e]; omega
    | next _ h1 =>
      have hm : q = k + 1 := by
        rcases h1 with ⟨h2, h3⟩ | ⟨h2, h3⟩
        · rw [List.range'_eq_nil_iff] at h2
          have := hk0 h2; omega
        · have hkp : 0 < k := by
            rcases Nat.eq_zero_or_pos k with e | e
            · rw [e] at h2; cases h2
            · exact e
          rw [range_last hkp] at h2
          have := Option.some.inj h2; omega
      subst hm
      rw [← range_snoc] at hl'
      refine ⟨k + 1, _, hl', by omega, fun e => by omega, fun n hn => ?_⟩
      by_cases e : n = k + 1
      · subst e
        rw [updA_self]; omega
      · rw [updA_ne e]
        have := hA n (by rw [range_snoc] at hn; exact (List.mem_append.1 hn).resolve_right (fun h => e (List.mem_singleton.1 h)))
        omega
theorem SegI.end_ {lim : Int} {c one U : Nat} {d : Ds} {g : Lg} (h : SegI lim c one U d g) (_ : c < 1000) : ∃ (k : Nat) (A : Nat → List Rc), d.list pre = (List.range' 1 k).map segN ∧ k ≤ c ∧ g.seg = max k 1 ∧
    ∀ n ∈ List.range' 1 k, d.read (segN n) = (laid (A n), 0) ∧ left (laid (A n)) = [] ∧ ((laid (A n)).length : Int) ≤ max lim one := by
  obtain ⟨⟨k, A, hl, hk, hk0, hA⟩, _, _, _, _, _⟩ := h
  refine ⟨k, A, hl.li.list, hk, ?_, fun n hn => ⟨?_, (small_recs (hl.li.dat n hn)).2, hA n hn⟩⟩
  · rcases Nat.eq_zero_or_pos k with e | e
    · have := hk0 e; omega
    · rcases hl.at_ with ⟨h1, _⟩ | ⟨h1, _⟩
      · rw [range_last e] at h1
        have := Option.some.inj h1; omega
      · rw [List.range'_eq_nil_iff] at h1; omega
  · have hf : fnd d.fs (segN n) = some ⟨laid (A n), (laid (A n)).length⟩ := by
      by_cases e : (List.range' 1 k).getLast? = some n
      · rw [hl.li.last n e, List.append_nil]; rfl
      · exact hl.li.full n hn e
    unfold Ds.read
    rw [hf]

structure FullI (c : Nat) (have_ : List Rc) (d : Ds) (g : Lg) : Prop where
  ex : ∃ ns A, LG d g ns A ∧ ns.flatMap A = have_
  z : d.fz = Fz.none_
  acc : Acc c d
  rm : d.room ≤ 300
  sg : g.seg ≤ c + 1
theorem FullI.app {c : Nat} {hv : List Rc} {d : Ds} {g : Lg} {r : Rc} (h : FullI c hv d g) (hr : r.2.length ≤ 1048576) (hc : c < 1000) :
    (wAppend d g [r] = (7, d, g)) ∨ ∃ d' g', wAppend d g [r] = (0, d', g') ∧ FullI (c + 1) (hv ++ [r]) d' g' := by
  obtain ⟨⟨ns, A, hl, hf⟩, hz, hacc, hrm, hsg⟩ := h
  have hne : laid [r] ≠ [] := fun e => by cases laid_nil e
  by_cases hfree : d.free < (laid [r]).length
  · left
    unfold wAppend
    rw [if_neg (by rw [hl.nb]; decide), if_neg hne, if_pos hfree]
  · right
    have ha := append_any hl (rs := [r]) (fun x hx => by obtain rfl := List.mem_singleton.1 hx; exact hr) (by omega) (by omega)
    have hcalm := ha.calm hz
    have hacc' := hacc.wAppend g [r]
    have hrr := ha.room
    have hsg' := ha.seg
    have hok := ha.ok hcalm.1
    obtain ⟨e, d', g', he⟩ : ∃ e d' g', wAppend d g [r] = (e, d', g') := ⟨_, _, _, rfl⟩
    rw [he] at hcalm hacc' hrr hsg' hok
    simp only at hcalm hacc' hrr hsg' hok
    obtain ⟨rfl, hz'⟩ := hcalm
    refine ⟨d', g', he, ?_, hz', hacc', by omega, by omega⟩
    rcases hok with ⟨h1, _⟩ | ⟨ns', A', _, hl', h2⟩
    · cases h1
    · exact ⟨ns', A', hl', by rw [h2, hf]⟩
theorem FullI.rest {c : Nat} {hv : List Rc} {d : Ds} {g : Lg} {rs : List Rc} (h : FullI c hv d g) (hl : 300 < (laid (reset rs)).length) : wRestart d g rs = (7, d, g) := by
  obtain ⟨⟨ns, A, hg, _⟩, _, hacc, hrm, _⟩ := h
  have hu := hacc.use
  unfold wRestart
  rw [if_neg (by rw [hg.nb]; decide), if_pos (by unfold Ds.free; omega)]
theorem FullI.open_ {c : Nat} {hv : List Rc} {d : Ds} {g : Lg} (h : FullI c hv d g) (hk : ∀ r ∈ hv, r.1 ≠ 255) (limit : Int) : ∃ d' g', wOpen d limit = (0, d', g', hv) := by
  obtain ⟨⟨ns, A, hg, hf⟩, hz, _, _, _⟩ := h
  obtain ⟨j, d', g', A', e, _⟩ := wOpen_calm hg.li (Tail.nil []) (fun r hr => by cases hr) limit hz
  refine ⟨d', g', ?_⟩
  rw [e, List.take_nil, List.append_nil, hf]
  have := since_append [] hk
  rw [List.nil_append] at this
  rw [this]; rfl
end Go.Bar.Wal

/-
  Layer 4 (disk): the fuse: all faults are cleared; a call that does something; a new disk.
-/
namespace Go.Proofs.YtcopknopifbebaaGreatDoor
open Go.RowKit Go.Bar Go.Bar.Wal Go.Conc
attribute [local go_sem] Oper.semAt_some

def chLen (w : World) (c : Nat) : Nat := match w.heap[c]? with
  | some (.chan _ buf _ _ _ _) => buf.size
  | _ => 0
set_option maxHeartbeats 4000000 in
set_option maxRecDepth 10000 in
theorem clear_any (w : World) (h : Hd) (d : Ds) (B : Nat) (k : DkAt w h d) (hB : h.Hi B) :
    Calls Tryz.prog 30 #[.pointer (some ⟨h.U, 0, none⟩)] w (DkT DT0 B w h { d with fz := Fz.none_ } (.tuple #[])) := by
  obtain ⟨fs, room, used, ⟨q, now⟩⟩ := d
  obtain ⟨⟨a, b, k1, k2⟩, k3, k4⟩ := k
  simp only at k1 k2 k3 k4
  have c3 := k1.fu.cell (i := 3) rfl
  have f3 := k1.fu.free 3
  have k5 := k1.setU (arm' := false) 3 (.bool false) rfl
  have o5 := offU k1 hB 3 (.bool false)
  have k5 := Lib.hid k5
  have o5 := Lib.hid o5
  go_enter Tryz.func30, Tryz.ntmps30
  go_wp2_with fail
  go_loopw [5] (fun _ wr => Hid (∃ q, DkC wr h fs room used q a b false) ∧ Hid (Off DT0 B w wr)) (fun _ wr => chLen wr h.C)
  case atStart => exact ⟨Lib.hid ⟨_, k5⟩, o5⟩
  case round =>
    obtain ⟨hd, ho⟩ := hrel
    obtain ⟨q2, kq⟩ := hd
    obtain ⟨s, r, hc⟩ := kq.ch
    have c0 := kq.fu.cell (i := 0) rfl
    cases q2 with
    | nil =>
      have hc : wr.heap[h.C]? = some (.chan 16 #[] false s r false) := hc
      go_upto_region 2 with fail
      refine wp_region_sel_none rfl rfl (zero_fault _) rfl hc ?_
      go_wp2_with fail
      (try simp only [Exit.inBlock, Exit.then]); refine bodyPost_ret (results_none rfl _ _ _) rfl ?_
      exact ⟨rfl, ⟨⟨a, b, kq, fun x hx => (by cases hx)⟩, fun x hx => (by cases hx), fun x hx => (by cases hx)⟩, ho⟩
    | cons x q2 =>
      obtain ⟨a0, b0⟩ := x
      have kn := kq.chan (q' := q2) s (r + 1)
      have on : Off DT0 B wr (wr.setChan h.C 16 (qV q2) false s (r + 1) false) := Off.chan hc hB.c ..
      go_upto_region 2 with fail
      refine wp_region_sel_recv rfl rfl ⟨_, zero_fault _⟩ rfl hc (by rw [qV_size]; exact Nat.succ_pos _) ?_
      rw [qV_head, qV_tail]
      go_wp2_with fail
      go_roundw
      case rel => exact ⟨Lib.hid ⟨q2, kn⟩, Off.trans ho on⟩
      case measure =>
        unfold chLen
        rw [heap_setChan _ _ _ _ _ _ _ _ kq.ltC, hc]
        simp only [qV_size, List.length_cons]
        omega
theorem mk16 (w : World) : (Instr.makeChan 88 (.int .i64 16)).run Tryz.prog w = .ok (.chan (some w.heap.size)) (w.alloc (.chan 16 #[] false 0 0 false)) := by
  have hi : ∃ i, Tryz.prog.info? 90 = some i ∧ i.bytes = 16 := by
    have h : (Tryz.prog.info? 90).map (·.bytes) = some 16 := by kernel_rfl
    obtain ⟨i, hi, hb⟩ := Option.map_eq_some_iff.1 h
    exact ⟨i, hi, hb⟩
  obtain ⟨i, hi, hb⟩ := hi
  simpa using run_makeChan (P := Tryz.prog) (w := w) Tryz.underlying88 hi .i64 16 (by omega) (by rw [hb]; omega)
theorem newFuse_any (w : World) : Calls Tryz.prog 39 #[] w fun e w' => e = .returned (.pointer (some ⟨w.heap.size + 1, 0, none⟩)) ∧
    (w.alloc (.chan 16 #[] false 0 0 false)).alloc (.cells #[.chan (some w.heap.size), .int .i64 0, .bool false, .bool false] 92) = w' := by
  have hmc := mk16 w
  go_enter Tryz.func39, Tryz.ntmps39
  go_wp2_with fail
  go_ret
  exact ⟨rfl, rfl⟩
theorem blk_at {w : World} {k : Nat} {cur : Array Value} {T : TypeId} (hk : k = w.heap.size) : Blk (w.alloc (.cells cur T)) k T cur := by rw [hk]; exact Blk.new w cur T
theorem new_any (w : World) (room : Int) : Calls Tryz.prog 11 #[.int .i64 room] w fun e w' => ∃ h : Hd, e = .returned (.pointer (some ⟨h.D, 0, none⟩)) ∧ DkAt w' h (Ds.new room) ∧ h.Hi w.heap.size ∧ Below w.heap.size w w' := by
  have fin : ∀ m : Int, m = max room 0 → ∃ h : Hd, Ending.returned (Value.pointer (some ⟨w.heap.size + 3, 0, none⟩)) = .returned (.pointer (some ⟨h.D, 0, none⟩)) ∧ DkAt ((((w.alloc (.chan 16 #[] false 0 0 false)).alloc (.cells #[.chan (some w.heap.size), .int .i64 0, .bool false, .bool false] 92)).alloc (.map #[] 0)).alloc (.cells #[.pointer (some ⟨w.heap.size + 1, 0, none⟩), .map (some (w.heap.size + 2)), .int .i64 m, .int .i64 0] 43)) h (Ds.new room) ∧ h.Hi w.heap.size ∧ Below w.heap.size w ((((w.alloc (.chan 16 #[] false 0 0 false)).alloc (.cells #[.chan (some w.heap.size), .int .i64 0, .bool false, .bool false] 92)).alloc (.map #[] 0)).alloc (.cells #[.pointer (some ⟨w.heap.size + 1, 0, none⟩), .map (some (w.heap.size + 2)), .int .i64 m, .int .i64 0] 43)) := by
    intro m hm
    subst hm
    refine ⟨⟨w.heap.size + 3, w.heap.size + 1, w.heap.size, w.heap.size + 2⟩, rfl, ⟨⟨0, false, ⟨?_, ?_, ⟨0, 0, ?_⟩, ?_⟩, fun x hx => (by cases hx)⟩, fun x hx => (by cases hx), fun x hx => (by cases hx)⟩, ⟨by simp only; omega, by simp only; omega, Nat.le_refl _, by simp only; omega⟩, ?_⟩
    · exact blk_at (by simp)
    · exact ((blk_at (by simp)).alloc _).alloc _
    · have h1 := heap_alloc_new w (.chan 16 #[] false 0 0 false)
      have l1 : w.heap.size < (w.alloc (.chan 16 #[] false 0 0 false)).heap.size := by simp
      exact ((Below.heap_alloc _ _ _ (by simp; omega)).trans ((Below.heap_alloc _ _ _ (by simp; omega)).trans ((Below.heap_alloc _ _ _ l1).trans h1)))
    · have h1 := FmAt.made ((w.alloc (.chan 16 #[] false 0 0 false)).alloc (.cells #[.chan (some w.heap.size), .int .i64 0, .bool false, .bool false] 92)) Tryz.prog 9
      have e : ((w.alloc (.chan 16 #[] false 0 0 false)).alloc (.cells #[.chan (some w.heap.size), .int .i64 0, .bool false, .bool false] 92)).heap.size = w.heap.size + 2 := by simp
      rw [e] at h1
      exact h1.below ((Below.refl _ _).alloc (Nat.le_refl _) _)
    · exact ((((Below.refl _ w).alloc (Nat.le_refl _) _).alloc (by simp) _).alloc (by simp; omega) _).alloc (by simp; omega) _
  replace fin := Lib.hid fin
  have hmm := @run_makeMap Tryz.prog
  go_enter Tryz.func11, Tryz.ntmps11
  go_wp2_with (go_at_call 39; refine (newFuse_any _).mono ?_; rintro e w' ⟨rfl, rfl⟩)
  all_goals (go_ret; exact fin _ (by omega))
end Go.Proofs.YtcopknopifbebaaGreatDoor

/-
  Layer 4 (disk): a call that does something.
-/
namespace Go.Proofs.YtcopknopifbebaaGreatDoor
open Go.RowKit Go.Bar Go.Bar.Wal Go.Conc
attribute [local go_sem] Oper.semAt_some

set_option maxHeartbeats 4000000 in
set_option maxRecDepth 10000 in
theorem do_any (gf : Nat) (lb : Array Value) (eg : ∀ args w, (callFunc gf args).run Tryz.prog w = .ok (.enter gf args) w) (w : World) (h : Hd) (d : Ds) (B : Nat) (k : DkAt w h d) (hB : h.Hi B) (act : Ds → Ds)
    (hact : ∀ w1, DkAt w1 h { d with fz := d.fz.next.2 } → Off DT0 B w w1 → Calls Tryz.prog gf lb w1 (DkTo B w1 h (act { d with fz := d.fz.next.2 }) (.int .i64 0))) :
    Calls Tryz.prog 60 #[.pointer (some ⟨h.U, 0, none⟩), .func (.func gf) #[] lb] w (DkTo B w h (d.do_ act).2 (.int .i64 ((d.do_ act).1 : Nat))) := by
  unfold Ds.do_
  simp only
  have hw := next_works d.fz
  obtain ⟨wk, hwk⟩ : ∃ wk, wk = d.fz.next.1.1 := ⟨_, rfl⟩
  obtain ⟨dn, hdn⟩ : ∃ dn, dn = d.fz.next.1.2 := ⟨_, rfl⟩
  have ht := try_any w h d B k hB
  rw [← hwk, ← hdn] at ht
  rw [← hwk, ← hdn] at hw ⊢
  clear hwk hdn
  obtain ⟨d1, hd1⟩ : ∃ d1, d1 = { d with fz := d.fz.next.2 } := ⟨_, rfl⟩
  rw [← hd1] at ht hact ⊢
  clear hd1
  cases wk with
  | true =>
    obtain rfl := hw rfl
    simp only [if_true]
    go_enter Tryz.func60, Tryz.ntmps60
    go_wp2_with (first
      | (go_at_call 84; refine ht.mono ?_; rintro e w1 ⟨rfl, k1, o1⟩)
      | (refine (hact _ k1 o1).mono ?_; rintro e w2 ⟨rfl, k2, o2⟩))
    go_ret
    exact ⟨rfl, k2, (o1.wide dt0).trans o2⟩
  | false =>
    clear hw
    cases dn with
    | true =>
      simp only [if_true, if_false, Bool.false_eq_true]
      go_enter Tryz.func60, Tryz.ntmps60
      go_wp2_with (first
        | (go_at_call 84; refine ht.mono ?_; rintro e w1 ⟨rfl, k1, o1⟩)
        | (refine (hact _ k1 o1).mono ?_; rintro e w2 ⟨rfl, k2, o2⟩))
      go_ret
      exact ⟨rfl, k2, (o1.wide dt0).trans o2⟩
    | false =>
      clear hact
      simp only [if_false, Bool.false_eq_true]
      go_enter Tryz.func60, Tryz.ntmps60
      go_wp2_with (go_at_call 84; refine ht.mono ?_; rintro e w1 ⟨rfl, k1, o1⟩)
      go_ret
      exact ⟨rfl, k1, o1.wide dt0⟩
end Go.Proofs.YtcopknopifbebaaGreatDoor
