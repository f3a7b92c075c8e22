/-
  Layers 4, 11 (disk, wal): plain: what a disk uses is what its files have: no program in sight; no condition.
-/
import Derived.Test.YtnoebccoaeiakaaGreatDoorZWalN
import Derived.Test.YtnoebccoaeiakaaGreatDoorZFrmM

namespace Go.Bar.Wal
open Go.RowKit Go.Bar Go.Bar.Leb Go.Bar.Frm

def tot : Fs → Nat
  | [] => 0
  | (_, f) :: r => f.s.length + tot r
def lenAt (fs : Fs) (n : Nm) : Nat := ((fnd fs n).getD Fi.z).s.length
theorem len_none {fs : Fs} {n : Nm} (h : fnd fs n = none) : lenAt fs n = 0 := by unfold lenAt; rw [h]; rfl
theorem len_some {fs : Fs} {n : Nm} {f : Fi} (h : fnd fs n = some f) : lenAt fs n = f.s.length := by unfold lenAt; rw [h]; rfl
theorem len_cons (m : Nm) (g : Fi) (r : Fs) (n : Nm) : lenAt ((m, g) :: r) n = if m = n then g.s.length else lenAt r n := by
  unfold lenAt
  show ((if m = n then some g else fnd r n).getD Fi.z).s.length = _
  split <;> rfl
theorem srt_none {m : Nm} {g : Fi} {r : Fs} (h : Srt ((m, g) :: r)) {n : Nm} (hn : n < m ∨ n = m) : fnd r n = none :=
  fnd_none fun p hp e => by
    have h1 := (List.pairwise_cons.1 h).1 p hp
    rw [e] at h1
    rcases hn with hn | hn
    · exact List.lt_irrefl _ (List.lt_trans hn h1)
    · rw [hn] at h1; exact List.lt_irrefl _ h1
theorem tot_put {fs : Fs} (h : Srt fs) (n : Nm) (f : Fi) : tot (fput fs n f) + lenAt fs n = tot fs + f.s.length := by
  induction fs with
  | nil =>
    show f.s.length + 0 + 0 = 0 + f.s.length
    omega
  | cons p r ih =>
    obtain ⟨m, g⟩ := p
    have ih := ih (List.pairwise_cons.1 h).2
    rw [len_cons]
    unfold fput
    by_cases e1 : m = n
    · rw [if_pos e1, if_pos e1]
      show f.s.length + tot r + g.s.length = g.s.length + tot r + f.s.length
      omega
    · rw [if_neg e1, if_neg e1]
      by_cases e2 : n < m
      · rw [if_pos e2, len_none (srt_none h (.inl e2))]
        show f.s.length + (g.s.length + tot r) + 0 = g.s.length + tot r + f.s.length
        omega
      · rw [if_neg e2]
        show g.s.length + tot (fput r n f) + lenAt r n = g.s.length + tot r + f.s.length
        omega
theorem len_le_tot (fs : Fs) (n : Nm) : lenAt fs n ≤ tot fs := by
  induction fs with
  | nil => exact Nat.le_refl _
  | cons p r ih =>
    obtain ⟨m, g⟩ := p
    rw [len_cons]
    show _ ≤ g.s.length + tot r
    split <;> omega
theorem mem_le_tot {fs : Fs} {p : Nm × Fi} (h : p ∈ fs) : p.2.s.length ≤ tot fs := by
  induction fs with
  | nil => cases h
  | cons q r ih =>
    obtain ⟨m, g⟩ := q
    show _ ≤ g.s.length + tot r
    rcases List.mem_cons.1 h with h | h
    · rw [h]; exact Nat.le_add_right _ _
    · exact Nat.le_trans (ih h) (Nat.le_add_left _ _)
theorem put_len_le (fs : Fs) (n : Nm) (f : Fi) : (fput fs n f).length ≤ fs.length + 1 ∧ ((fnd fs n).isSome = true → Srt fs → (fput fs n f).length = fs.length) := by
  induction fs with
  | nil => exact ⟨Nat.le_refl _, fun h => by cases h⟩
  | cons p r ih =>
    obtain ⟨m, g⟩ := p
    unfold fput
    by_cases e1 : m = n
    · rw [if_pos e1]
      exact ⟨Nat.le_succ _, fun _ _ => rfl⟩
    · rw [if_neg e1]
      by_cases e2 : n < m
      · rw [if_pos e2]
        refine ⟨Nat.le_refl _, fun h hs => ?_⟩
        have h : (if m = n then some g else fnd r n).isSome = true := h
        rw [if_neg e1, srt_none hs (.inl e2)] at h
        cases h
      · rw [if_neg e2]
        refine ⟨Nat.succ_le_succ ih.1, fun h hs => congrArg (· + 1) (ih.2 ?_ (List.pairwise_cons.1 hs).2)⟩
        have h : (if m = n then some g else fnd r n).isSome = true := h
        rwa [if_neg e1] at h

structure Acc (c : Nat) (d : Ds) : Prop where
  srt : Srt d.fs
  use : d.used = (tot d.fs : Nat)
  room : d.used ≤ d.room
  num : d.fs.length ≤ c
  nm : ∀ p ∈ d.fs, p.1.length ≤ 40
  sok : ∀ p ∈ d.fs, p.2.sure ≤ p.2.s.length
  fq : d.fz.q.length ≤ 16
theorem Acc.mono {c c' : Nat} {d : Ds} (h : Acc c d) (hc : c ≤ c') : Acc c' d := ⟨h.srt, h.use, h.room, Nat.le_trans h.num hc, h.nm, h.sok, h.fq⟩
theorem hit_q (q : List (Int × Bool)) (a : Int) (b : Bool) : (Fz.hit q a b).2.q = q := by unfold Fz.hit; split <;> rfl
theorem next_q (z : Fz) : z.next.2.q.length ≤ z.q.length := by
  unfold Fz.next
  split
  · rw [hit_q]; exact Nat.le_refl _
  · split
    · exact Nat.le_refl _
    · rename_i h; rw [hit_q, h]; exact Nat.le_succ _
theorem Acc.fuse {c : Nat} {d : Ds} (h : Acc c d) {z : Fz} (hz : z.q.length ≤ 16) : Acc c { d with fz := z } := ⟨h.srt, h.use, h.room, h.num, h.nm, h.sok, hz⟩
theorem Acc.do_ {c c' : Nat} {d : Ds} (h : Acc c d) (hc : c ≤ c') {act : Ds → Ds} (ha : ∀ d, Acc c d → (d.fs = d.fs) → Acc c' (act d)) : Acc c' (d.do_ act).2 := by
  have hz := h.fuse (z := d.fz.next.2) (Nat.le_trans (next_q _) h.fq)
  rcases do_cases d act with ⟨_, e⟩ | ⟨_, e | e⟩ <;> rw [e]
  · exact ha _ hz rfl
  · exact ha _ hz rfl
  · exact hz.mono hc
theorem Acc.doF {c c' : Nat} {d : Ds} (h : Acc c d) (hc : c ≤ c') {act : Ds → Ds} (ha : ∀ z, z.q.length ≤ 16 → Acc c { d with fz := z } → Acc c' (act { d with fz := z })) : Acc c' (d.do_ act).2 := by
  have hq := Nat.le_trans (next_q d.fz) h.fq
  have hz := h.fuse hq
  rcases do_cases d act with ⟨_, e⟩ | ⟨_, e | e⟩ <;> rw [e]
  · exact ha _ hq hz
  · exact ha _ hq hz
  · exact hz.mono hc
theorem nm_put {fs : Fs} (h : ∀ p ∈ fs, p.1.length ≤ 40) {n : Nm} (hn : n.length ≤ 40) (f : Fi) : ∀ p ∈ fput fs n f, p.1.length ≤ 40 := fun p hp => by
  rcases put_mem hp with e | e
  · rw [e]; exact hn
  · exact h p e
theorem sk_put {fs : Fs} (h : ∀ p ∈ fs, p.2.sure ≤ p.2.s.length) {n : Nm} {f : Fi} (hf : f.sure ≤ f.s.length) : ∀ p ∈ fput fs n f, p.2.sure ≤ p.2.s.length := fun p hp => by
  rcases put_mem hp with e | e
  · rw [e]; exact hf
  · exact h p e
theorem sure_le {c : Nat} {d : Ds} (h : Acc c d) (n : Nm) : ((fnd d.fs n).getD Fi.z).sure ≤ ((fnd d.fs n).getD Fi.z).s.length := by
  cases hf : fnd d.fs n with
  | none => exact Nat.le_refl _
  | some f => exact h.sok _ (fnd_mem hf)
theorem good_len {n : Nm} (h : ¬ badName n) : n.length ≤ 40 := by
  unfold badName at h
  exact Nat.le_of_not_lt fun e => h (.inr e)
theorem Acc.append {c : Nat} {d : Ds} (h : Acc c d) (n : Nm) (s : List UInt8) : Acc (c + 1) (d.append n s).2 := by
  unfold Ds.append
  by_cases h1 : badName n
  · rw [if_pos h1]; exact h.mono (Nat.le_succ _)
  · rw [if_neg h1]
    by_cases h2 : d.free < s.length
    · rw [if_pos h2]; exact h.mono (Nat.le_succ _)
    · rw [if_neg h2]
      refine h.doF (Nat.le_succ _) fun z hz hzz => ⟨h.srt.put _ _, ?_, ?_, ?_, nm_put h.nm (good_len h1) _, sk_put h.sok (by have := sure_le h n; simp only [List.length_append]; omega), hz⟩
      · have := tot_put h.srt n ⟨((fnd d.fs n).getD Fi.z).s ++ s, ((fnd d.fs n).getD Fi.z).sure⟩
        have hu := h.use
        unfold lenAt at this
        simp only [List.length_append] at this
        show d.used + s.length = ((tot (fput d.fs n ⟨((fnd d.fs n).getD Fi.z).s ++ s, ((fnd d.fs n).getD Fi.z).sure⟩) : Nat) : Int)
        omega
      · unfold Ds.free at h2
        show d.used + s.length ≤ d.room
        omega
      · exact Nat.le_trans (put_len_le _ _ _).1 (Nat.succ_le_succ h.num)
theorem Acc.sync {c : Nat} {d : Ds} (h : Acc c d) (n : Nm) : Acc c (d.sync n).2 := by
  unfold Ds.sync
  cases hf : fnd d.fs n with
  | none => exact h
  | some f =>
    have hn := h.nm _ (fnd_mem hf)
    refine h.doF (Nat.le_refl _) fun z hz hzz => ⟨h.srt.put _ _, ?_, h.room, ?_, nm_put h.nm hn _, sk_put h.sok (Nat.le_refl _), hz⟩
    · have := tot_put h.srt n ⟨f.s, f.s.length⟩
      rw [len_some hf] at this
      have hu := h.use
      show d.used = ((tot (fput d.fs n _) : Nat) : Int)
      simp only at this
      omega
    · show (fput d.fs n _).length ≤ c
      rw [(put_len_le d.fs n _).2 (by rw [hf]; rfl) h.srt]; exact h.num
theorem Acc.truncate {c : Nat} {d : Ds} (h : Acc c d) (n : Nm) (k : Nat) : Acc c (d.truncate n k).2 := by
  unfold Ds.truncate
  cases hf : fnd d.fs n with
  | none => exact h
  | some f =>
    have hn := h.nm _ (fnd_mem hf)
    simp only
    by_cases hk : f.s.length < k
    · rw [if_pos hk]; exact h
    · rw [if_neg hk]
      have ht := tot_put h.srt n ⟨f.s.take k, k⟩
      rw [len_some hf] at ht
      simp only [List.length_take] at ht
      have hu := h.use
      have hr := h.room
      refine h.doF (Nat.le_refl _) fun z hz hzz => ⟨h.srt.put _ _, ?_, ?_, ?_, nm_put h.nm hn _, sk_put h.sok (by simp only [List.length_take]; omega), hz⟩
      · show d.used - (f.s.length - k : Nat) = ((tot (fput d.fs n _) : Nat) : Int)
        omega
      · show d.used - (f.s.length - k : Nat) ≤ d.room
        omega
      · show (fput d.fs n _).length ≤ c
        rw [(put_len_le d.fs n _).2 (by rw [hf]; rfl) h.srt]; exact h.num
theorem crash_tot (fs : Fs) (hs : ∀ p ∈ fs, p.2.sure ≤ p.2.s.length) (cs : List Int) : tot (crashF fs cs) + lost fs cs = tot fs ∧ (crashF fs cs).length = fs.length ∧ ∀ p ∈ crashF fs cs, p.2.sure = p.2.s.length := by
  induction fs generalizing cs with
  | nil => exact ⟨rfl, rfl, fun p hp => by cases hp⟩
  | cons q r ih =>
    obtain ⟨n, f⟩ := q
    have hq := hs _ (List.mem_cons_self ..)
    simp only at hq
    have ih := fun cs => ih (fun p hp => hs p (List.mem_cons_of_mem _ hp)) cs
    rw [crashF, lost]
    by_cases hl : f.s.length - f.sure = 0
    · rw [if_pos hl, if_pos hl]
      obtain ⟨h1, h2, h3⟩ := ih cs
      refine ⟨?_, congrArg (· + 1) h2, fun p hp => ?_⟩
      · show f.s.length + tot (crashF r cs) + lost r cs = f.s.length + tot r
        omega
      · rcases List.mem_cons.1 hp with e | e
        · rw [e]; show f.sure = f.s.length; omega
        · exact h3 p e
    · rw [if_neg hl, if_neg hl]
      obtain ⟨h1, h2, h3⟩ := ih cs.tail
      refine ⟨?_, congrArg (· + 1) h2, fun p hp => ?_⟩
      · show (f.s.take _).length + tot (crashF r cs.tail) + (_ + lost r cs.tail) = f.s.length + tot r
        rw [List.length_take]
        omega
      · rcases List.mem_cons.1 hp with e | e
        · rw [e]
        · exact h3 p e
theorem Acc.crash {c : Nat} {d : Ds} (h : Acc c d) (cs : List Int) : Acc c (d.crash cs) := by
  obtain ⟨h1, h2, h3⟩ := crash_tot d.fs h.sok cs
  have hu := h.use
  have hr := h.room
  have hmap := crash_names d.fs cs
  refine ⟨?_, ?_, ?_, by show (crashF d.fs cs).length ≤ c; rw [h2]; exact h.num, fun p hp => ?_, fun p hp => Nat.le_of_eq (h3 p hp), Nat.zero_le _⟩
  · have := List.pairwise_map.2 h.srt
    rw [← hmap] at this
    exact List.pairwise_map.1 this
  · show d.used - (lost d.fs cs : Nat) = ((tot (crashF d.fs cs) : Nat) : Int)
    omega
  · show d.used - (lost d.fs cs : Nat) ≤ d.room
    omega
  · have : p.1 ∈ (crashF d.fs cs).map (·.1) := List.mem_map_of_mem hp
    rw [hmap] at this
    obtain ⟨q, hq, e⟩ := List.mem_map.1 this
    rw [← e]; exact h.nm q hq
theorem Acc.openS {c : Nat} {d : Ds} (h : Acc c d) (n : Nat) : Acc c (openS d n).2 := by
  unfold Wal.openS
  split
  · exact h.truncate _ _
  · exact h.sync _
theorem Acc.openL {c : Nat} : ∀ (l : List Nat) {d : Ds} (all : List Rc) (seg size : Nat), Acc c d → Acc c (openL l d all seg size).2.1
  | [], d, all, seg, size, h => h
  | n :: l, d, all, seg, size, h => by
    rw [Wal.openL]
    split
    · exact h
    · split
      · exact h.openS n
      · exact Acc.openL l _ _ _ (h.openS n)
theorem Acc.wOpen {c : Nat} {d : Ds} (h : Acc c d) (limit : Int) : Acc c (wOpen d limit).2.1 := by
  unfold Wal.wOpen
  split
  · exact Acc.openL _ _ _ _ h
  · exact Acc.openL _ _ _ _ h
theorem Acc.wAppend {c : Nat} {d : Ds} (h : Acc c d) (g : Lg) (rs : List Rc) : Acc (c + 1) (wAppend d g rs).2.1 := by
  unfold Wal.wAppend
  split
  · exact h.mono (Nat.le_succ _)
  · split
    · exact h.mono (Nat.le_succ _)
    · split
      · exact h.mono (Nat.le_succ _)
      · simp only
        split
        · split
          · exact h.append _ _
          · exact (h.append _ _).sync _
        · split
          · exact h.append _ _
          · exact (h.append _ _).sync _
end Go.Bar.Wal

namespace Go.Bar.Wal
open Go.RowKit Go.Bar Go.Bar.Leb Go.Bar.Frm

theorem range_last {k : Nat} (h : 0 < k) : (List.range' 1 k).getLast? = some k := by
  rw [List.getLast?_range', if_neg (by omega)]
  congr 1; omega
theorem range_snoc (k : Nat) : List.range' 1 (k + 1) = List.range' 1 k ++ [k + 1] := by
  rw [List.range'_concat]
  simp only [Nat.one_mul]
  rw [Nat.add_comm 1 k]

def Ds.new (room : Int) : Ds := ⟨[], max room 0, 0, Fz.none_⟩
theorem Acc.new (room : Int) : Acc 0 (Ds.new room) := ⟨List.Pairwise.nil, rfl, by show (0 : Int) ≤ max room 0; omega, Nat.le_refl _, fun p hp => (by cases hp), fun p hp => (by cases hp), Nat.zero_le _⟩
theorem open_new (room limit : Int) : wOpen (Ds.new room) limit = (0, Ds.new room, ⟨max limit 1, 1, 0, false⟩, []) ∧ LG (Ds.new room) ⟨max limit 1, 1, 0, false⟩ [] (fun _ => []) := by
  have h : LI (Ds.new room).fs [] (fun _ => []) [] 0 := LI.empty
  refine ⟨?_, h, rfl, .inr ⟨rfl, rfl⟩, Nat.le_refl _⟩
  unfold wOpen
  rw [h.segs]
  rfl

structure SegI (lim : Int) (c one U : Nat) (d : Ds) (g : Lg) : Prop where
  ex : ∃ k A, LG d g (List.range' 1 k) A ∧ k ≤ c ∧ (k = 0 → g.seg = 1) ∧ ∀ n ∈ List.range' 1 k, ((laid (A n)).length : Int) ≤ max lim one
  z : d.fz = Fz.none_
  lm : g.limit = lim
  acc : Acc c d
  rm : d.room = 1048576
  us : d.used ≤ U
theorem SegI.app {lim : Int} {c one U : Nat} {d : Ds} {g : Lg} {rs : List Rc} (h : SegI lim c one U d g) (hrs : ∀ r ∈ rs, r.2.length ≤ 1048576) (hU : U + (laid rs).length ≤ 1048576) (hc : c < 1000) :
    ∃ d' g', wAppend d g rs = (0, d', g') ∧ SegI lim (c + 1) (max one (laid rs).length) (U + (laid rs).length) d' g' := by
  obtain ⟨⟨k, A, hl, hk, hk0, hA⟩, hz, hlm, hacc, hrm, hus⟩ := h
  have hseg : g.seg ≤ k + 1 := by
    rcases Nat.eq_zero_or_pos k with e | e
    · have := hk0 e; omega
    · rcases hl.at_ with ⟨h1, _⟩ | ⟨h1, _⟩
      · rw [range_last e] at h1
        have := Option.some.inj h1; omega
      · rw [List.range'_eq_nil_iff] at h1; omega
  have ha := append_any hl hrs (by unfold Ds.free; omega) (by omega)
  have hcalm := ha.calm hz
  have hacc' := hacc.wAppend g rs
  have hu := ha.used
  have hr := ha.room
  have hlim := ha.lim
  have hok := ha.ok hcalm.1
  obtain ⟨e, d', g', he⟩ : ∃ e d' g', wAppend d g rs = (e, d', g') := ⟨_, _, _, rfl⟩
  rw [he] at hcalm hacc' hu hr hlim hok
  simp only at hcalm hacc' hu hr hlim hok
  obtain ⟨rfl, hz'⟩ := hcalm
  refine ⟨d', g', he, ?_, hz', hlim.trans hlm, hacc', hr.trans hrm, by omega⟩
  rcases hok with ⟨rfl, rfl, rfl⟩ | ⟨ns', A', hgo, hl', _⟩
  · exact ⟨k, A, hl, by omega, hk0, fun n hn => by have := hA n hn; omega⟩
  · generalize g'.seg = q at hgo
    cases hgo with
    | here h1 hs =>
      have hkp : 0 < k := by
        rcases Nat.eq_zero_or_pos k with e | e
        · rw [e] at h1; cases h1
        · exact e
      refine ⟨k, _, hl', by omega, fun e => by omega, fun n hn => ?_⟩
      have h2 := hA n hn
      by_cases e : n = g.seg
      · subst e
        rw [updA_self, laid_append, List.length_append]
        have hsz : g.size = (laid (A g.seg)).length := by
          rcases hl.at_ with ⟨_, h3⟩ | ⟨h3, _⟩
          · exact h3
          · rw [List.range'_eq_nil_iff] at h3; omega
        rcases hs with hs | hs <;> omega
      · rw [updA_ne e]; omega
    | next _ h1 =>
      have hm : q = k + 1 := by
        rcases h1 with ⟨h2, h3⟩ | ⟨h2, h3⟩
        · rw [List.range'_eq_nil_iff] at h2
          have := hk0 h2; omega
        · have hkp : 0 < k := by
            rcases Nat.eq_zero_or_pos k with e | e
            · rw [e] at h2; cases h2
            · exact e
          rw [range_last hkp] at h2
          have := Option.some.inj h2; omega
      subst hm
      rw [← range_snoc] at hl'
      refine ⟨k + 1, _, hl', by omega, fun e => by omega, fun n hn => ?_⟩
      by_cases e : n = k + 1
      · subst e
        rw [updA_self]; omega
      · rw [updA_ne e]
        have := hA n (by rw [range_snoc] at hn; exact (List.mem_append.1 hn).resolve_right (fun h => e (List.mem_singleton.1 h)))
        omega
theorem SegI.end_ {lim : Int} {c one U : Nat} {d : Ds} {g : Lg} (h : SegI lim c one U d g) (_hc : c < 1000) : ∃ (k : Nat) (A : Nat → List Rc), d.list pre = (List.range' 1 k).map segN ∧ k ≤ c ∧ g.seg = max k 1 ∧
    ∀ n ∈ List.range' 1 k, d.read (segN n) = (laid (A n), 0) ∧ left (laid (A n)) = [] ∧ ((laid (A n)).length : Int) ≤ max lim one := by
  obtain ⟨⟨k, A, hl, hk, hk0, hA⟩, _, _, _, _, _⟩ := h
  refine ⟨k, A, hl.li.list, hk, ?_, fun n hn => ⟨?_, (small_recs (hl.li.dat n hn)).2, hA n hn⟩⟩
  · rcases Nat.eq_zero_or_pos k with e | e
    · have := hk0 e; omega
    · rcases hl.at_ with ⟨h1, _⟩ | ⟨h1, _⟩
      · rw [range_last e] at h1
        have := Option.some.inj h1; omega
      · rw [List.range'_eq_nil_iff] at h1; omega
  · have hf : fnd d.fs (segN n) = some ⟨laid (A n), (laid (A n)).length⟩ := by
      by_cases e : (List.range' 1 k).getLast? = some n
      · rw [hl.li.last n e, List.append_nil]; rfl
      · exact hl.li.full n hn e
    unfold Ds.read
    rw [hf]

structure FullI (c : Nat) (have_ : List Rc) (d : Ds) (g : Lg) : Prop where
  ex : ∃ ns A, LG d g ns A ∧ ns.flatMap A = have_
  z : d.fz = Fz.none_
  acc : Acc c d
  rm : d.room ≤ 300
  sg : g.seg ≤ c + 1
theorem FullI.app {c : Nat} {hv : List Rc} {d : Ds} {g : Lg} {r : Rc} (h : FullI c hv d g) (hr : r.2.length ≤ 1048576) (hc : c < 1000) :
    (wAppend d g [r] = (7, d, g)) ∨ ∃ d' g', wAppend d g [r] = (0, d', g') ∧ FullI (c + 1) (hv ++ [r]) d' g' := by
  obtain ⟨⟨ns, A, hl, hf⟩, hz, hacc, hrm, hsg⟩ := h
  have hne : laid [r] ≠ [] := fun e => by cases laid_nil e
  by_cases hfree : d.free < (laid [r]).length
  · left
    unfold wAppend
    rw [if_neg (by rw [hl.nb]; decide), if_neg hne, if_pos hfree]
  · right
    have ha := append_any hl (rs := [r]) (fun x hx => by obtain rfl := List.mem_singleton.1 hx; exact hr) (by omega) (by omega)
    have hcalm := ha.calm hz
    have hacc' := hacc.wAppend g [r]
    have hrr := ha.room
    have hsg' := ha.seg
    have hok := ha.ok hcalm.1
    obtain ⟨e, d', g', he⟩ : ∃ e d' g', wAppend d g [r] = (e, d', g') := ⟨_, _, _, rfl⟩
    rw [he] at hcalm hacc' hrr hsg' hok
    simp only at hcalm hacc' hrr hsg' hok
    obtain ⟨rfl, hz'⟩ := hcalm
    refine ⟨d', g', he, ?_, hz', hacc', by omega, by omega⟩
    rcases hok with ⟨h1, _⟩ | ⟨ns', A', _, hl', h2⟩
    · cases h1
    · exact ⟨ns', A', hl', by rw [h2, hf]⟩
end Go.Bar.Wal

namespace Go.Bar.Wal
open Go.RowKit Go.Bar Go.Bar.Leb Go.Bar.Frm

structure Few (rs : List Rc) : Prop where
  dat : ∀ r ∈ rs, r.2.length ≤ 1048576
  knd : ∀ r ∈ rs, r.1 ≠ 255
theorem Few.nil : Few [] := ⟨fun r hr => (by cases hr), fun r hr => (by cases hr)⟩
theorem Few.append {a b : List Rc} (ha : Few a) (hb : Few b) : Few (a ++ b) := ⟨fun r hr => (List.mem_append.1 hr).elim (ha.dat r) (hb.dat r), fun r hr => (List.mem_append.1 hr).elim (ha.knd r) (hb.knd r)⟩
theorem Few.take {a : List Rc} (h : Few a) (j : Nat) : Few (a.take j) := ⟨fun r hr => h.dat r (List.mem_of_mem_take hr), fun r hr => h.knd r (List.mem_of_mem_take hr)⟩
theorem Few.drop {a : List Rc} (h : Few a) (j : Nat) : Few (a.drop j) := ⟨fun r hr => h.dat r (List.mem_of_mem_drop hr), fun r hr => h.knd r (List.mem_of_mem_drop hr)⟩
theorem Few.since {a : List Rc} (h : Few a) : Wal.since a = a := by
  have := since_append [] h.knd
  rw [List.nil_append] at this
  exact this

structure RecI (c : Nat) (l more : List Rc) (d : Ds) : Prop where
  ex : ∃ ns A t su i, LI d.fs ns A t su ∧ Tail (more.drop i) t ∧ ns.flatMap A = l ++ more.take i
  acc : Acc c d
theorem RecI.start {c : Nat} {l more : List Rc} {d : Ds} {g : Lg} {ns : List Nat} {A : Nat → List Rc} (h : LG d g ns A) (hf : ns.flatMap A = l) (hacc : Acc c d) (hm : Few more) (hfree : ((laid more).length : Int) ≤ d.free) (hseg : g.seg + 1 < 100000000) : RecI (c + 1) l more (wAppend d g more).2.1 := by
  have ha := append_any h hm.dat hfree hseg
  refine ⟨?_, hacc.wAppend g more⟩
  rcases ha.err with e | e
  · rcases ha.ok e with ⟨h1, h2, _⟩ | ⟨ns', A', _, hl, h2⟩
    · rw [h2]; exact ⟨ns, A, [], 0, 0, h.li, Tail.nil _, by rw [hf, List.take_zero, List.append_nil]⟩
    · exact ⟨ns', A', [], 0, more.length, hl.li, Tail.nil _, by rw [h2, hf, List.take_length]⟩
  · obtain ⟨_, ns', A', t, su, h1, h2, h3, _⟩ := ha.bad e
    exact ⟨ns', A', t, su, 0, h1, h2, by rw [h3, hf, List.take_zero, List.append_nil]⟩
theorem RecI.fuse {c : Nat} {l more : List Rc} {d : Ds} (h : RecI c l more d) {z : Fz} (hz : z.q.length ≤ 16) : RecI c l more { d with fz := z } := ⟨h.ex, h.acc.fuse hz⟩
theorem RecI.crash {c : Nat} {l more : List Rc} {d : Ds} (h : RecI c l more d) (cs : List Int) : RecI c l more (d.crash cs) := by
  obtain ⟨ns, A, t, su, i, h1, h2, h3⟩ := h.ex
  obtain ⟨k, _, h4⟩ := h1.crash cs
  exact ⟨⟨ns, A, _, _, i, h4, h2.take k, h3⟩, h.acc.crash cs⟩
theorem RecI.end_ {c : Nat} {l more : List Rc} {d : Ds} (h : RecI c l more d) (hl : Few l) (hm : Few more) (hz : d.fz = Fz.none_) (limit : Int) : ∃ j d' g', wOpen d limit = (0, d', g', l ++ more.take j) := by
  obtain ⟨ns, A, t, su, i, h1, h2, h3⟩ := h.ex
  obtain ⟨j, d', g', A', e, _⟩ := wOpen_calm h1 h2 (hm.drop i).dat limit hz
  refine ⟨i + j, d', g', ?_⟩
  rw [e, h3, List.append_assoc, ← List.take_add, (hl.append (hm.take (i + j))).since]

structure PlayI (lim : Int) (c : Nat) (sure loose : List Rc) (other : Option (List Rc)) (d : Ds) (g : Lg) : Prop where
  lm : g.limit = lim
  acc : Acc c d
  rm : d.room = 1048576
  us : d.used ≤ 1000 * c
  sg : g.seg ≤ c + 1
  fs : Few sure
  fl : Few loose
  fo : ∀ o, other = some o → Few o
  ok : g.broken = false → ∃ ns A, LG d g ns A ∧ since (ns.flatMap A) = sure
  bad : g.broken = true → ∃ ns A t su b, LI d.fs ns A t su ∧ Tail b t ∧ (∀ n ∈ ns, n ≤ c + 1) ∧ ((since (ns.flatMap A) = sure ∧ b = loose) ∨ (∃ o, other = some o ∧ since (ns.flatMap A) = o ∧ b = []))
section
variable {lim : Int} {c : Nat} {sure loose : List Rc} {other : Option (List Rc)} {d : Ds} {g : Lg} {rs : List Rc}
theorem PlayI.mono (h : PlayI lim c sure loose other d g) : PlayI lim (c + 1) sure loose other d g :=
  ⟨h.lm, h.acc.mono (Nat.le_succ _), h.rm, by have := h.us; omega, by have := h.sg; omega, h.fs, h.fl, h.fo, h.ok, fun hb => by
    obtain ⟨ns, A, t, su, b, h1, h2, h3, h4⟩ := h.bad hb
    exact ⟨ns, A, t, su, b, h1, h2, fun n hn => Nat.le_succ_of_le (h3 n hn), h4⟩⟩
theorem PlayI.app (h : PlayI lim c sure loose other d g) (hb : g.broken = false) (hr : Few rs) (hl : (laid rs).length ≤ 1000) (hc : c < 100) :
    (∃ d' g', wAppend d g rs = (0, d', g') ∧ PlayI lim (c + 1) (sure ++ rs) loose other d' g') ∨ (∃ d' g', wAppend d g rs = (8, d', g') ∧ PlayI lim (c + 1) sure rs other d' g') := by
  obtain ⟨ns, A, hg, hs⟩ := h.ok hb
  have hus := h.us
  have hrm := h.rm
  have hsg := h.sg
  have ha := append_any hg hr.dat (by unfold Ds.free; omega) (by omega)
  have hacc := h.acc.wAppend g rs
  have hu := ha.used
  have hroom := ha.room
  have hlim := ha.lim
  have hseg := ha.seg
  have herr := ha.err
  have hok := ha.ok
  have hbad := ha.bad
  obtain ⟨e, d', g', he⟩ : ∃ e d' g', wAppend d g rs = (e, d', g') := ⟨_, _, _, rfl⟩
  rw [he] at hacc hu hroom hlim hseg herr hok hbad
  simp only at hacc hu hroom hlim hseg herr hok hbad
  rcases herr with rfl | rfl
  · left
    rcases hok rfl with ⟨rfl, rfl, rfl⟩ | ⟨ns', A', _, hl', h2⟩
    · refine ⟨_, _, he, ?_⟩
      rw [List.append_nil]
      exact h.mono
    · refine ⟨d', g', he, hlim.trans h.lm, hacc, hroom.trans hrm, by omega, by omega, h.fs.append hr, h.fl, h.fo, fun _ => ⟨ns', A', hl', ?_⟩, fun hbb => by rw [hl'.nb] at hbb; cases hbb⟩
      rw [h2, since_append _ hr.knd, hs]
  · right
    obtain ⟨h1, ns', A', t, su, h2, h3, h4, h5⟩ := hbad rfl
    refine ⟨d', g', he, hlim.trans h.lm, hacc, hroom.trans hrm, by omega, by omega, h.fs, hr, h.fo, fun hbb => (by rw [h1] at hbb; cases hbb), fun _ => ⟨ns', A', t, su, rs, h2, h3, fun n hn => by have := h5 n hn; omega, .inl ⟨by rw [h4, hs], rfl⟩⟩⟩
theorem PlayI.fuse (h : PlayI lim c sure loose other d g) {z : Fz} (hz : z.q.length ≤ 16) : PlayI lim c sure loose other { d with fz := z } g :=
  ⟨h.lm, h.acc.fuse hz, h.rm, h.us, h.sg, h.fs, h.fl, h.fo, fun hb => by
    obtain ⟨ns, A, h1, h2⟩ := h.ok hb
    exact ⟨ns, A, ⟨h1.li, h1.nb, h1.at_, h1.lo⟩, h2⟩, h.bad⟩
theorem PlayI.files (h : PlayI lim c sure loose other d g) : ∃ ns A t su b, LI d.fs ns A t su ∧ Tail b t ∧ (∀ n ∈ ns, n ≤ c + 1) ∧ ((since (ns.flatMap A) = sure ∧ b = loose) ∨ (∃ o, other = some o ∧ since (ns.flatMap A) = o ∧ b = [])) := by
  cases hb : g.broken with
  | true => exact h.bad hb
  | false =>
    obtain ⟨ns, A, h1, h2⟩ := h.ok hb
    refine ⟨ns, A, [], 0, loose, h1.li, Tail.nil _, fun n hn => ?_, .inl ⟨h2, rfl⟩⟩
    have hsg := h.sg
    rcases h1.at_ with ⟨h3, _⟩ | ⟨h3, _⟩
    · have := ris_lt_last h1.li.ris h3 n hn; omega
    · rw [h3] at hn; cases hn
end
end Go.Bar.Wal

namespace Go.Bar.Wal
open Go.RowKit Go.Bar Go.Bar.Leb Go.Bar.Frm

section
variable {d : Ds} {x : Nm}
theorem app_fnd {n : Nm} (s : List UInt8) (h : x ≠ n) : fnd (d.append n s).2.fs x = fnd d.fs x := by
  unfold Ds.append
  split
  · rfl
  · split
    · rfl
    · exact do_fs (P := fun fs => fnd fs x = fnd d.fs x) rfl (by simp only; rw [fnd_put, if_neg h])
theorem sync_fnd {n : Nm} (h : x ≠ n) : fnd (d.sync n).2.fs x = fnd d.fs x := by
  unfold Ds.sync
  split
  · rfl
  · exact do_fs (P := fun fs => fnd fs x = fnd d.fs x) rfl (by simp only; rw [fnd_put, if_neg h])
theorem ne_seg (hx : pre.isPrefixOf x = false) (n : Nat) : x ≠ segN n := fun e => by
  rw [e, segN_pre] at hx; cases hx
theorem wAppend_fnd (hx : pre.isPrefixOf x = false) (g : Lg) (rs : List Rc) : fnd (wAppend d g rs).2.1.fs x = fnd d.fs x := by
  unfold wAppend
  split
  · rfl
  · split
    · rfl
    · split
      · rfl
      · simp only
        split
        · split
          · exact app_fnd _ (ne_seg hx _)
          · exact (sync_fnd (ne_seg hx _)).trans (app_fnd _ (ne_seg hx _))
        · split
          · exact app_fnd _ (ne_seg hx _)
          · exact (sync_fnd (ne_seg hx _)).trans (app_fnd _ (ne_seg hx _))
end

structure RstI (c U : Nat) (all : List Rc) (d : Ds) (g : Lg) : Prop where
  ex : ∃ ns A, LG d g ns A ∧ ns.flatMap A = all
  z : d.fz = Fz.none_
  acc : Acc c d
  rm : d.room = 1048576
  us : d.used ≤ U
  sg : g.seg ≤ c + 1
  oth : ∀ x, pre.isPrefixOf x = false → fnd d.fs x = none
theorem RstI.start (limit : Int) : RstI 0 0 [] (Ds.new 1048576) ⟨max limit 1, 1, 0, false⟩ :=
  ⟨⟨[], _, (open_new 1048576 limit).2, rfl⟩, rfl, Acc.new _, rfl, Int.le_refl _, Nat.le_refl _, fun _ _ => rfl⟩
theorem RstI.app {c U : Nat} {all rs : List Rc} {d : Ds} {g : Lg} (h : RstI c U all d g) (hr : Few rs) (hl : (laid rs).length ≤ 1000) (hU : U ≤ 100000) (hc : c < 100) : ∃ d' g', wAppend d g rs = (0, d', g') ∧ RstI (c + 1) (U + 1000) (all ++ rs) d' g' := by
  obtain ⟨⟨ns, A, hg, hf⟩, hz, hacc, hrm, hus, hsg, hoth⟩ := h
  have ha := append_any hg hr.dat (by unfold Ds.free; omega) (by omega)
  have hacc' := hacc.wAppend g rs
  have ho := fun x hx => (wAppend_fnd (d := d) (x := x) hx g rs).trans (hoth x hx)
  have hcalm := ha.calm hz
  have hu := ha.used
  have hroom := ha.room
  have hseg := ha.seg
  have hok := ha.ok hcalm.1
  obtain ⟨e, d', g', he⟩ : ∃ e d' g', wAppend d g rs = (e, d', g') := ⟨_, _, _, rfl⟩
  rw [he] at hacc' hu hroom hseg hok hcalm ho
  simp only at hacc' hu hroom hseg hok hcalm ho
  obtain ⟨rfl, hz'⟩ := hcalm
  refine ⟨d', g', he, ?_, hz', hacc', hroom.trans hrm, by omega, by omega, ho⟩
  rcases hok with ⟨rfl, rfl, rfl⟩ | ⟨ns', A', _, hl', h2⟩
  · exact ⟨ns, A, hg, by rw [hf, List.append_nil]⟩
  · exact ⟨ns', A', hl', by rw [h2, hf]⟩
end Go.Bar.Wal

namespace Go.Bar.Hd
open Go.RowKit Go.Bar Go.Bar.Leb Go.Bar.Frm Go.Bar.Lab Go.Bar.Xor Go.Bar.Mrg Go.Bar.Wal
def x0 : Rp := ⟨[], fun _ => none, 1⟩
theorem x0_inv : InvR x0 := ⟨Gd.nil, fun i r h => (by cases h), fun n L h => (by cases h), Nat.le_refl _, by decide⟩
theorem log_replay {A B : List Pnt} (hA : OksM [] A) (hB : OksM (addMs [] A) B) (hl : A.length + B.length ≤ 900000) (j : Nat) :
    PresR x0 (its [] A ++ (its (addMs [] A) B).take j) ∧ ∃ m, (runR x0 (its [] A ++ (its (addMs [] A) B).take j)).h = addMs (addMs [] A) (B.take m) := by
  obtain ⟨a1, a2, a3⟩ := replay_all A x0_inv hA (by show 0 + A.length ≤ _; omega)
  have hlen := addMs_len A []
  have a2' : (runR x0 (its [] A)).h = addMs [] A := a2
  obtain ⟨b1, _, _⟩ := replay_all B a3 (by rw [a2]; exact hB) (by rw [a2]; simp only [List.length_nil] at hlen; show (addMs [] A).length + _ ≤ _; omega)
  obtain ⟨m, hm⟩ := replay_part B a3 (by rw [a2]; exact hB) (by rw [a2]; simp only [List.length_nil] at hlen; show (addMs [] A).length + _ ≤ _; omega) j
  have a2'' : (runR x0 (its x0.h A)).h = addMs [] A := a2
  rw [a2''] at b1 hm
  refine ⟨?_, m, ?_⟩
  · rw [presR_app]
    exact ⟨a1, presR_take b1 j⟩
  · unfold runR at hm ⊢
    rw [List.foldl_append]
    exact hm
theorem OksM.take : ∀ {ps : List Pnt} {h : List Row} (m : Nat), OksM h ps → OksM h (ps.take m)
  | [], _, m, _ => by simp [OksM]
  | p :: ps, h, 0, _ => trivial
  | p :: ps, h, m + 1, k => ⟨k.1, OksM.take (ps := ps) m k.2⟩
theorem recs_few {h : List Row} {ps : List Pnt} (hl : h.length + ps.length ≤ 1000000) (hp : ∀ p ∈ ps, Small p.1 ∧ TmOk p.2) : Wal.Few ((its h ps).map encI) ∧ (∀ r ∈ (its h ps).map encI, r.2.length ≤ 40) ∧ (laid ((its h ps).map encI)).length ≤ 92 * ps.length ∧ ((its h ps).map encI).length ≤ 2 * ps.length := by
  have hs := its_small hl hp
  have h1 : ∀ r ∈ (its h ps).map encI, r.2.length ≤ 40 ∧ r.1 ≠ 255 := fun r hr => by
    obtain ⟨i, hi, rfl⟩ := List.mem_map.1 hr
    exact encI_len (hs i hi)
  have h2 := laidI_len hs
  have h3 := its_len ps h
  exact ⟨⟨fun r hr => Nat.le_trans (h1 r hr).1 (by decide), fun r hr => (h1 r hr).2⟩, fun r hr => (h1 r hr).1, by omega, by rw [List.length_map]; exact h3⟩
theorem OksM.tm : ∀ {ps : List Pnt} {h : List Row}, OksM h ps → ∀ p ∈ ps, TmOk p.2 ∧ Ok p.1
  | [], _, _, p, hp => by cases hp
  | q :: ps, h, k, p, hp => by
    rcases List.mem_cons.1 hp with rfl | hp
    · exact ⟨k.1.tm, k.1.lab⟩
    · exact OksM.tm k.2 p hp
structure LogI (k : Nat) (A : List Pnt) (d : Ds) (g : Lg) : Prop where
  r : RstI k (1000 * k) ((its [] A).map encI) d g
  ok : OksM [] A
  sm : ∀ p ∈ A, Small p.1
  len : A.length ≤ 8 * k
theorem LogI.start (limit : Int) : LogI 0 [] (Ds.new 1048576) ⟨max limit 1, 1, 0, false⟩ := ⟨RstI.start limit, trivial, fun p hp => (by cases hp), Nat.le_refl _⟩
theorem LogI.app {k : Nat} {A B : List Pnt} {d : Ds} {g : Lg} (h : LogI k A d g) (hk : k < 50) (hB : OksM (addMs [] A) B) (hs : ∀ p ∈ B, Small p.1) (hl : B.length ≤ 8) : ∃ d' g', wAppend d g ((its (addMs [] A) B).map encI) = (0, d', g') ∧ LogI (k + 1) (A ++ B) d' g' := by
  have hA := h.len
  have hlen := addMs_len A []
  simp only [List.length_nil] at hlen
  obtain ⟨f1, _, f3, _⟩ := recs_few (h := addMs [] A) (ps := B) (by omega) (fun p hp => ⟨hs p hp, (OksM.tm hB p hp).1⟩)
  obtain ⟨d', g', e, r⟩ := h.r.app f1 (by omega) (by omega) (by omega)
  refine ⟨d', g', e, ⟨?_, ?_, fun p hp => (List.mem_append.1 hp).elim (h.sm p) (hs p), by rw [List.length_append]; omega⟩⟩
  · rw [its_app, List.map_append]
    exact r
  · have h0 := h.ok
    clear h hA hlen f1 f3 e r hs hl
    revert hB
    have : ∀ (A : List Pnt) (h : List Row), OksM h A → OksM (addMs h A) B → OksM h (A ++ B) := by
      intro A
      induction A with
      | nil => intro h _ hb; exact hb
      | cons p A ih => intro h ha hb; exact ⟨ha.1, ih _ ha.2 hb⟩
    exact this A [] h0
theorem LogI.torn {k : Nat} {A B : List Pnt} {d : Ds} {g : Lg} (h : LogI k A d g) (hk : k < 50) (hB : OksM (addMs [] A) B) (hs : ∀ p ∈ B, Small p.1) (hl : B.length ≤ 8) {z : Fz} (hz : z.q.length ≤ 16) (cs : List Int) (limit : Int) :
    Wal.Acc (k + 1) (wAppend { d with fz := z } g ((its (addMs [] A) B).map encI)).2.1 ∧ (wAppend { d with fz := z } g ((its (addMs [] A) B).map encI)).2.1.room = 1048576 ∧
    ∃ j d' g', wOpen ((wAppend { d with fz := z } g ((its (addMs [] A) B).map encI)).2.1.crash cs) limit = (0, d', g', (its [] A ++ (its (addMs [] A) B).take j).map encI) := by
  have hA := h.len
  have hlen := addMs_len A []
  simp only [List.length_nil] at hlen
  obtain ⟨f1, _, f3, _⟩ := recs_few (h := addMs [] A) (ps := B) (by omega) (fun p hp => ⟨hs p hp, (OksM.tm hB p hp).1⟩)
  obtain ⟨g1, _, _, _⟩ := recs_few (h := []) (ps := A) (by simp only [List.length_nil]; omega) (fun p hp => ⟨h.sm p hp, (OksM.tm h.ok p hp).1⟩)
  obtain ⟨⟨ns, N, hg, hf⟩, hz0, hacc, hrm, hus, hsg, _⟩ := h.r
  have hgA : LG { d with fz := z } g ns N := ⟨hg.li, hg.nb, hg.at_, hg.lo⟩
  have hfr : ((laid ((its (addMs [] A) B).map encI)).length : Int) ≤ ({ d with fz := z } : Ds).free := by unfold Ds.free; show _ ≤ d.room - d.used; omega
  have hs1 := RecI.start (c := k) hgA hf (hacc.fuse hz) f1 hfr (by omega)
  have hr := (Wal.append_any hgA f1.dat hfr (by omega)).room
  refine ⟨hs1.acc, hr.trans hrm, ?_⟩
  obtain ⟨j, d', g', e⟩ := (hs1.crash cs).end_ g1 f1 rfl limit
  exact ⟨j, d', g', by rw [e, List.map_append, List.map_take]⟩
theorem LogI.whole {k : Nat} {A : List Pnt} {d : Ds} {g : Lg} (h : LogI k A d g) (hk : k < 50) (cs : List Int) (limit : Int) : Wal.Acc k d ∧ d.room = 1048576 ∧ d.fz = Fz.none_ ∧ ∃ d' g', wOpen (d.crash cs) limit = (0, d', g', (its [] A).map encI) := by
  have hA := h.len
  obtain ⟨g1, _, _, _⟩ := recs_few (h := []) (ps := A) (by simp only [List.length_nil]; omega) (fun p hp => ⟨h.sm p hp, (OksM.tm h.ok p hp).1⟩)
  obtain ⟨⟨ns, N, hg, hf⟩, hz0, hacc, hrm, hus, hsg, _⟩ := h.r
  have hs1 : RecI k ((its [] A).map encI) [] d := ⟨⟨ns, N, [], 0, 0, hg.li, Tail.nil _, by rw [hf, List.take_nil, List.append_nil]⟩, hacc⟩
  obtain ⟨j, d', g', e⟩ := (hs1.crash cs).end_ g1 Wal.Few.nil rfl limit
  exact ⟨hacc, hrm, hz0, d', g', by rw [e, List.take_nil, List.append_nil]⟩
end Go.Bar.Hd
