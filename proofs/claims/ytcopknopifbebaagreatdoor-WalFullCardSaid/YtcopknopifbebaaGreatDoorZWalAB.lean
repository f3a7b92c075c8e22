/-
  Layer 11 (wal): plain: any files are opened, and opened again behind a crash: no program in sight; no condition.
-/
import Derived.Test.YtcopknopifbebaaGreatDoorZWalEF
import Derived.Test.YtcopknopifbebaaGreatDoorZWalU

namespace Go.Bar.Wal
open Go.RowKit Go.Bar Go.Bar.Leb Go.Bar.Frm

theorem whole_eq : ∀ (n : Nat) (s : List UInt8), s.length ≤ n → laid (recs s) ++ left s = s ∧ ∀ r ∈ recs s, r.2.length ≤ 1048576
  | 0, s, h => by
    obtain rfl := List.eq_nil_of_length_eq_zero (Nat.le_zero.1 h)
    obtain ⟨h1, h2⟩ := recs_stop next_nil
    rw [h1, h2]
    exact ⟨rfl, fun r hr => by cases hr⟩
  | n + 1, s, h => by
    by_cases he : (next s).2.2 = 0
    · obtain ⟨h1, h2⟩ := recs_go he
      obtain ⟨h3, h4⟩ := next_one s he
      have h5 := next_left s he
      obtain ⟨h6, h7⟩ := whole_eq n (next s).2.1 (by omega)
      rw [h1, h2, laid_cons, List.append_assoc, h6]
      refine ⟨h3, fun r hr => ?_⟩
      rcases List.mem_cons.1 hr with rfl | hr
      · exact h4
      · exact h7 r hr
    · obtain ⟨h1, h2⟩ := recs_stop he
      rw [h1, h2]
      exact ⟨rfl, fun r hr => by cases hr⟩
def Wh (s : List UInt8) : List UInt8 := s.take (s.length - (left s).length)
theorem wh_eq (s : List UInt8) : Wh s = laid (recs s) := by
  have h := (whole_eq s.length s (Nat.le_refl _)).1
  have hl : s.length - (left s).length = (laid (recs s)).length := by
    have := congrArg List.length h
    rw [List.length_append] at this
    omega
  have h2 := congrArg (List.take (laid (recs s)).length) h
  rw [List.take_left] at h2
  unfold Wh
  rw [hl]
  exact h2.symm
theorem wh_recs (s : List UInt8) : recs (Wh s) = recs s := by
  have h := recs_laid (recs s) [] (whole_eq s.length s (Nat.le_refl _)).2 next_nil
  rw [List.append_nil] at h
  rw [wh_eq]
  exact h.1
theorem wh_len (s : List UInt8) : (Wh s).length = s.length - (left s).length := by
  unfold Wh
  rw [List.length_take]; omega

theorem names_put {fs : Fs} {n : Nm} (h : Srt fs) (hf : (fnd fs n).isSome = true) (f : Fi) : (fput fs n f).map (·.1) = fs.map (·.1) := by
  refine srt_unique (by rw [List.pairwise_map]; exact h.put n f) (by rw [List.pairwise_map]; exact h) fun x => ?_
  rw [← fnd_some_iff, ← fnd_some_iff, fnd_put]
  by_cases e : x = n
  · subst e; rw [if_pos rfl, hf]; simp
  · rw [if_neg e]
structure Sg (fs fs' : Fs) : Prop where
  nm : fs'.map (·.1) = fs.map (·.1)
  rc : ∀ x f, fnd fs x = some f → ∃ f', fnd fs' x = some f' ∧ recs f'.s = recs f.s ∧ (f.sure = f.s.length → f'.sure = f'.s.length)
theorem Sg.refl (fs : Fs) : Sg fs fs := ⟨rfl, fun _ f h => ⟨f, h, rfl, fun h => h⟩⟩
theorem Sg.trans {a b c : Fs} (h : Sg a b) (k : Sg b c) : Sg a c := ⟨k.nm.trans h.nm, fun x f hf => by
  obtain ⟨f1, h1, h2, h3⟩ := h.rc x f hf
  obtain ⟨f2, h4, h5, h6⟩ := k.rc x f1 h1
  exact ⟨f2, h4, h5.trans h2, fun e => h6 (h3 e)⟩⟩
theorem Sg.put {fs : Fs} {n : Nm} {f : Fi} (h : Srt fs) (hf : fnd fs n = some f) : Sg fs (fput fs n ⟨Wh f.s, (Wh f.s).length⟩) :=
  ⟨names_put h (by rw [hf]; rfl) _, fun x g hg => by
    rw [fnd_put]
    by_cases e : x = n
    · subst e
      rw [hf] at hg
      injection hg with hg
      subst hg
      rw [if_pos rfl]
      exact ⟨_, rfl, wh_recs f.s, fun _ => rfl⟩
    · rw [if_neg e]
      exact ⟨g, hg, rfl, fun h => h⟩⟩
theorem Sg.some {fs fs' : Fs} (h : Sg fs fs') {x : Nm} {f : Fi} (hf : fnd fs x = some f) : ∃ f', fnd fs' x = Option.some f' := by
  obtain ⟨f', h1, _⟩ := h.rc x f hf
  exact ⟨f', h1⟩
theorem Sg.read {d d' : Ds} (h : Sg d.fs d'.fs) {x : Nm} {f : Fi} (hf : fnd d.fs x = Option.some f) : recs (d'.read x).1 = recs (d.read x).1 := by
  obtain ⟨f', h1, h2, _⟩ := h.rc x f hf
  unfold Ds.read
  rw [hf, h1]
  exact h2

theorem openS_calm {d : Ds} {n : Nat} {f : Fi} (hz : d.fz = Fz.none_) (hf : fnd d.fs (segN n) = some f) : ∃ d', openS d n = (0, d') ∧ d'.fs = fput d.fs (segN n) ⟨Wh f.s, (Wh f.s).length⟩ ∧ d'.fz = Fz.none_ ∧ d'.room = d.room := by
  have hr : (d.read (segN n)).1 = f.s := by unfold Ds.read; rw [hf]
  unfold openS
  rw [hr]
  by_cases h : f.s.length - (left f.s).length < f.s.length
  · rw [if_pos h]
    unfold Ds.truncate
    rw [hf]
    simp only
    rw [if_neg (by omega), do_none _ _ hz]
    refine ⟨_, rfl, ?_, hz, rfl⟩
    show fput d.fs (segN n) ⟨f.s.take (f.s.length - (left f.s).length), f.s.length - (left f.s).length⟩ = _
    rw [wh_len]
    rfl
  · rw [if_neg h]
    unfold Ds.sync
    rw [hf]
    simp only
    rw [do_none _ _ hz]
    refine ⟨_, rfl, ?_, hz, rfl⟩
    have hl : (left f.s).length = 0 := by have := left_le f.s; omega
    have hw : Wh f.s = f.s := by unfold Wh; rw [hl, Nat.sub_zero, List.take_length]
    rw [hw]
theorem openL_free : ∀ (l : List Nat) (d : Ds) (all : List Rc) (seg size : Nat), Srt d.fs → d.fz = Fz.none_ → (∀ n ∈ l, ∃ f, fnd d.fs (segN n) = some f) →
    ∃ d' seg' size', openL l d all seg size = (0, d', all ++ l.flatMap (fun n => recs (d.read (segN n)).1), seg', size') ∧ d'.fz = Fz.none_ ∧ d'.room = d.room ∧ Srt d'.fs ∧ Sg d.fs d'.fs ∧ ∀ n ∈ l, ∀ f, fnd d'.fs (segN n) = some f → f.sure = f.s.length
  | [], d, all, seg, size, hs, hz, _ => ⟨d, seg, size, by rw [List.flatMap_nil, List.append_nil]; rfl, hz, rfl, hs, Sg.refl _, fun n hn => by cases hn⟩
  | n :: l, d, all, seg, size, hs, hz, hl => by
    obtain ⟨f, hf⟩ := hl n (List.mem_cons_self ..)
    obtain ⟨d1, h1, h2, h3, h4⟩ := openS_calm hz hf
    have hsg : Sg d.fs d1.fs := by rw [h2]; exact Sg.put hs hf
    have hs1 : Srt d1.fs := by rw [h2]; exact hs.put _ _
    obtain ⟨d2, seg2, size2, g1, g2, g3, g4, g5, g6⟩ := openL_free l d1 (all ++ recs (d.read (segN n)).1) n ((d.read (segN n)).1.length - (left (d.read (segN n)).1).length) hs1 h3 (fun m hm => by
      obtain ⟨f', hf'⟩ := hl m (List.mem_cons_of_mem _ hm)
      exact hsg.some hf')
    have hr2 : (d.read (segN n)).2 = 0 := by unfold Ds.read; rw [hf]
    refine ⟨d2, seg2, size2, ?_, g2, g3.trans h4, g4, hsg.trans g5, fun m hm f' hf' => ?_⟩
    · unfold openL
      rw [if_neg (by rw [hr2]; simp), h1, if_neg (by simp), g1, List.flatMap_cons, List.append_assoc]
      have : l.flatMap (fun n => recs (d1.read (segN n)).1) = l.flatMap (fun n => recs (d.read (segN n)).1) := by
        have hh : ∀ m : List Nat, (∀ x ∈ m, x ∈ l) → m.flatMap (fun n => recs (d1.read (segN n)).1) = m.flatMap (fun n => recs (d.read (segN n)).1) := by
          intro m hm
          induction m with
          | nil => rfl
          | cons x m ih =>
            obtain ⟨f', hf'⟩ := hl x (List.mem_cons_of_mem _ (hm x (List.mem_cons_self ..)))
            rw [List.flatMap_cons, List.flatMap_cons, ih fun y hy => hm y (List.mem_cons_of_mem _ hy), hsg.read hf']
        exact hh l fun _ h => h
      rw [this]
    · rcases List.mem_cons.1 hm with rfl | hm
      · have e1 : fnd d1.fs (segN m) = some ⟨Wh f.s, (Wh f.s).length⟩ := by rw [h2, fnd_put, if_pos rfl]
        obtain ⟨f2, e2, _, e3⟩ := g5.rc _ _ e1
        rw [hf'] at e2
        injection e2 with e2
        rw [e2]
        exact e3 rfl
      · exact g6 m hm f' hf'
theorem opens {d : Ds} (hs : Srt d.fs) (hz : d.fz = Fz.none_) (limit : Int) (_ : ∀ p ∈ d.fs, p.2.sure ≤ p.2.s.length) : ∃ d' g, wOpen d limit = (0, d', g, since (refAll d.fs)) ∧ d'.fz = Fz.none_ ∧ Srt d'.fs ∧ ∀ cs, (∀ p ∈ d'.fs, p.2.sure ≤ p.2.s.length) → refAll (d'.crash cs).fs = refAll d.fs := by
  have hseg : ∀ n ∈ segsOf d, ∃ f, fnd d.fs (segN n) = some f := fun n hn => by
    obtain ⟨p, hp, e, h0⟩ := segs_mem.1 hn
    subst e
    rw [numN_seg2 h0]
    exact ⟨p.2, hs.fnd (show (p.1, p.2) ∈ d.fs from hp)⟩
  obtain ⟨d', seg', size', h1, h2, h3, h4, h5, h6⟩ := openL_free (segsOf d) d [] 1 0 hs hz hseg
  rw [List.nil_append, segs_read hs] at h1
  refine ⟨d', ⟨max limit 1, seg', size', false⟩, ?_, h2, h4, fun cs hk' => ?_⟩
  · unfold wOpen
    rw [h1]
    simp
  · have hcn := crash_names d'.fs cs
    have hsc : Srt (d'.crash cs).fs := by
      have : ((d'.crash cs).fs.map (·.1)).Pairwise (· < ·) := by
        show ((crashF d'.fs cs).map (·.1)).Pairwise (· < ·)
        rw [hcn, List.pairwise_map]; exact h4
      rw [List.pairwise_map] at this
      exact this
    have hnm : (d'.crash cs).fs.map (·.1) = d.fs.map (·.1) := hcn.trans h5.nm
    have hsq : segsOf (d'.crash cs) = segsOf d := by unfold segsOf Ds.list; rw [hnm]
    rw [← segs_read hsc, ← segs_read hs, hsq]
    have hh : ∀ m : List Nat, (∀ x ∈ m, x ∈ segsOf d) → m.flatMap (fun n => recs ((d'.crash cs).read (segN n)).1) = m.flatMap (fun n => recs (d.read (segN n)).1) := by
      intro m hm
      induction m with
      | nil => rfl
      | cons x m ih =>
        obtain ⟨f, hf⟩ := hseg x (hm x (List.mem_cons_self ..))
        obtain ⟨f1, e1, e2, _⟩ := h5.rc _ _ hf
        have e3 := h6 x (hm x (List.mem_cons_self ..)) f1 e1
        have hc := crash_fnd d'.fs hk' cs (segN x)
        rw [e1] at hc
        rw [List.flatMap_cons, List.flatMap_cons, ih fun y hy => hm y (List.mem_cons_of_mem _ hy)]
        congr 1
        obtain ⟨f2, e4, e5⟩ : ∃ f2, fnd (crashF d'.fs cs) (segN x) = some f2 ∧ f2.s = f1.s := by
          obtain ⟨k, h7, h8⟩ := hc
          exact ⟨_, h8, List.take_of_length_le (by omega)⟩
        unfold Ds.read
        rw [hf]
        show recs (match fnd (crashF d'.fs cs) (segN x) with | none => ([], 5) | some f => (f.s, 0)).1 = recs f.s
        rw [e4]
        show recs f2.s = recs f.s
        rw [e5, e2]
    exact hh _ fun _ h => h
end Go.Bar.Wal

/-
  Layer 11 (wal): Open.
-/
namespace Go.Bar.Wal
open Go.RowKit Go.Bar Go.Bar.Leb Go.Bar.Frm Go.Proofs
theorem Off.ap {Ts : TypeId → Prop} {B : Nat} {w wr w' : World} {sz : Nat} {v : Value} (o : Off Ts B w wr) (hB : B ≤ w.heap.size) (ha : Ap wr w' sz v) (hv : ∀ k, v.ownBlock = some k → w.heap.size ≤ k) : Off Ts B w w' := by
  have hk : ∀ k, k < w.heap.size → w'.heap[k]? = wr.heap[k]? := fun k hlt => by
    rcases ha.block k (Nat.lt_of_lt_of_le hlt o.size) with h1 | ⟨o', n', c, cur1, cur', e1, fr, rfl, _⟩
    · exact h1
    · exact absurd (hv k rfl) (by omega)
  refine ⟨⟨ha.os.trans o.kc.os, ha.tape.trans o.kc.tape, ha.output.trans o.kc.output, Nat.le_trans o.kc.size ha.size, fun k cur T fr he ht => ?_⟩, ⟨ha.os.trans o.bel.os, ha.tape.trans o.bel.tape, ha.output.trans o.bel.output, Nat.le_trans o.bel.size ha.size, fun k hlt => ?_⟩⟩
  · rw [hk k (Array.getElem?_eq_some_iff.1 he).1]
    exact o.kc.block k cur T fr he ht
  · rw [hk k (by omega)]
    exact o.bel.block k hlt
theorem recs_len (s : List UInt8) : (recs s).length ≤ s.length := by
  have h := (whole_eq s.length s (Nat.le_refl _)).1
  have h2 := congrArg List.length h
  rw [List.length_append] at h2
  have h3 : (recs s).length ≤ (laid (recs s)).length := by
    have : ∀ rs : List Rc, rs.length ≤ (laid rs).length := fun rs => by
      induction rs with
      | nil => exact Nat.zero_le _
      | cons r rs ih =>
        rw [laid_cons, List.length_append, List.length_cons, rec_len]
        omega
    exact this _
  omega
theorem openS_room (d : Ds) (n : Nat) : (openS d n).2.room = d.room := by
  unfold openS
  split
  · exact truncate_room _ _ _
  · exact sync_room _ _
theorem openL_room : ∀ (l : List Nat) (d : Ds) (all : List Rc) (seg size : Nat), (openL l d all seg size).2.1.room = d.room
  | [], d, all, seg, size => rfl
  | n :: l, d, all, seg, size => by
    rw [openL]
    split
    · rfl
    · split
      · exact openS_room d n
      · rw [openL_room l, openS_room]
theorem wOpen_room (d : Ds) (limit : Int) : (wOpen d limit).2.1.room = d.room := by
  unfold wOpen
  split <;> exact openL_room _ _ _ _ _
end Go.Bar.Wal
namespace Go.Proofs.YtcopknopifbebaaGreatDoor
open Go.RowKit Go.Bar Go.Bar.Wal Go.Bar.Leb Go.Bar.Frm Go.Conc
theorem nd_rec : ¬ DTs 34 := fun c => by rcases c with c | c | c <;> exact absurd c (by decide)
theorem ndk_rec : NDk 34 := ⟨by decide, by decide⟩
attribute [local go_sem] Oper.semAt_some

theorem read_small {c : Nat} {d : Ds} (ha : Wal.Acc c d) (n : Nm) : ((d.read n).1.length : Int) ≤ d.room ∧ ((d.read n).2 = 0 ∨ (d.read n).2 = 5) := by
  unfold Ds.read
  have h1 := ha.use
  have h2 := ha.room
  cases hf : fnd d.fs n with
  | none => exact ⟨by show ((0 : Nat) : Int) ≤ _; omega, .inr rfl⟩
  | some f =>
    have h3 := len_le_tot d.fs n
    rw [len_some hf] at h3
    exact ⟨by show ((f.s.length : Nat) : Int) ≤ _; omega, .inl rfl⟩
theorem frcs_append (a b : List Rc) : frcs (a ++ b) = frcs a ++ frcs b := List.flatMap_append
def OpTo (B : Nat) (w : World) (h : Hd) (r : Nat × Ds × Lg × List Rc) (en : Ending) (w' : World) : Prop :=
  DkAt w' h r.2.1 ∧ Off LTs B w w' ∧ ((r.1 ≠ 0 ∧ en = .returned (.tuple #[.pointer none, .slice none 0 0, .int .i64 (r.1 : Nat)])) ∨
    (r.1 = 0 ∧ ∃ L v, en = .returned (.tuple #[.pointer (some ⟨L, 0, none⟩), v, .int .i64 0]) ∧ LgAt w' L h r.2.2.1 ∧ w.heap.size ≤ L ∧ Buf w' 34 2 v r.2.2.2.length (frcs r.2.2.2)))
set_option maxHeartbeats 8000000 in
set_option maxRecDepth 10000 in
theorem lOpen_any (w : World) (h : Hd) (d : Ds) (B c : Nat) (limit : Int) (k : DkAt w h d) (hE : EnvAt w) (hB : h.Hi B) (hB4 : 4 ≤ B) (ha : Wal.Acc c d) (hc : c ≤ 10000) (hr : d.room ≤ 10000000) :
    Calls Tryz.prog 12 #[.pointer (some ⟨h.D, 0, none⟩), .int .i64 limit] w (OpTo B w h (wOpen d limit)) := by
  have hB0 := hiA k hB
  have hE0 := Lib.hid hE
  have hsm := fun n (hn : n ∈ segsOf d) => segs_small ha hn
  have hslen : (segsOf d).length ≤ 10000 := by
    unfold segsOf
    rw [List.length_mergeSort]
    refine Nat.le_trans (List.length_filter_le _ _) ?_
    rw [List.length_map]
    unfold Ds.list
    refine Nat.le_trans (List.length_filter_le _ _) ?_
    rw [List.length_map]
    exact Nat.le_trans ha.num hc
  obtain ⟨r, hre⟩ : ∃ r, r = wOpen d limit := ⟨_, rfl⟩
  have hrt : ∀ q, openL (segsOf d) d [] 1 0 = q → r = if q.1 ≠ 0 then (q.1, q.2.1, (⟨0, 0, 0, false⟩ : Lg), []) else (0, q.2.1, (⟨max limit 1, q.2.2.2.1, q.2.2.2.2, false⟩ : Lg), since q.2.2.1) := fun q hq => by
    rw [hre, ← hq]; rfl
  rw [← hre]
  clear hre
  have hsegs := fun w' (k' : DkAt w' h d) (hE' : EnvAt w') => segments_any w' h d c k' hE' ha (by omega)
  obtain ⟨O, hO⟩ : ∃ O, O = segsOf d := ⟨_, rfl⟩
  rw [← hO] at hrt hsm hslen
  simp only [← hO] at hsegs
  clear hO
  replace hsegs := Lib.hid hsegs
  replace hrt := Lib.hid hrt
  obtain ⟨M, hM⟩ : ∃ M, M = max limit 1 := ⟨_, rfl⟩
  have hMx := Lib.hid hM
  rw [← hM] at hrt
  clear hM
  go_enter Tryz.func12, Tryz.ntmps12
  go_upto_region 3 with fail
  have hb1 : Below w.heap.size w (w.alloc (.cells #[.pointer (some ⟨h.D, 0, none⟩), .int .i64 (max limit 1), .int .i64 1, .int .i64 0, .bool false] 82)) := (Below.refl _ _).alloc (Nat.le_refl _) _
  have l1 : LgAt (w.alloc (.cells #[.pointer (some ⟨h.D, 0, none⟩), .int .i64 (max limit 1), .int .i64 1, .int .i64 0, .bool false] 82)) w.heap.size h ⟨max limit 1, 1, 0, false⟩ := Blk.new w _ _
  obtain ⟨w1, hw1⟩ : ∃ w1, w1 = w.alloc (.cells #[.pointer (some ⟨h.D, 0, none⟩), .int .i64 (max limit 1), .int .i64 1, .int .i64 0, .bool false] 82) := ⟨_, rfl⟩
  rw [← hw1] at hb1 l1 ⊢
  clear hw1
  have k1 := k.below hb1
  have hE1 := hE.below hb1
  go_wp2_with (go_at_call 40; refine (hsegs.out w1 k1 hE1).mono ?_; rintro e w2 ⟨ov, rfl, hold⟩; obtain ⟨OA, oc, rfl, hlc, hcm⟩ := hold.slice.shape; unfold maxLen at hcm)
  have hb2 := hold.below
  have K2 := Lib.hid (k1.below hb2)
  have L2 := Lib.hid (l1.below hb2)
  have O2 : Hid (Off LTs B w w2) := Off.of_below (below_trans hb1 hb2) hB0
  have OB2 := Lib.hid hold.buf
  have HA := Lib.hid ha
  clear k1 hE1 hb1 hb2 l1 hold hsegs k hE ha
  go_loopw [7, 25] (fun av i wr => ∃ (j : Nat) (dj : Ds) (all : List Rc) (seg size : Nat), i = .int .i64 (j : Nat) ∧ j ≤ O.length ∧ dj.room ≤ 10000000 ∧ all.length ≤ j * 10000000 ∧ Hid (Wal.Acc c dj) ∧ Hid (openL O d [] 1 0 = openL (O.drop j) dj all seg size) ∧ Hid (DkAt wr h dj) ∧ Hid (LgAt wr w.heap.size h ⟨max limit 1, seg, size, false⟩) ∧ Hid (Off LTs B w wr) ∧ Hid (Buf wr 34 2 av all.length (frcs all)) ∧ Hid (∀ k, av.ownBlock = some k → w.heap.size ≤ k) ∧ Hid (Buf wr 3 1 (.slice OA O.length oc) O.length (ncs O))) (fun _ i _ => O.length - (intOf i).toNat)
  case atStart => exact ⟨0, d, [], 1, 0, rfl, Nat.zero_le _, hr, by decide, HA, rfl, K2, L2, O2, Buf.nil _ _ _, (fun k hk => by cases hk), OB2⟩
  case round =>
    obtain ⟨j, dj, all, seg, size, rfl, hj, hrj, hall, haj, hrem, hkj, hlj, hoj, hab, hav, hob⟩ := hrel
    by_cases hjl : j < O.length
    · obtain ⟨n, hn⟩ : ∃ n, O[j]? = some n := ⟨_, List.getElem?_eq_getElem hjl⟩
      obtain ⟨hn1, hn2⟩ := hsm n (List.mem_of_getElem? hn)
      obtain ⟨bb, oo, rfl, hlt, hcells⟩ := (SlAt.of_buf hob.out).cells (by omega)
      have hcell := hcells j _ (ncs_at hn)
      have hci : (0 : Int) ≤ (j : Int) := by omega
      have hci2 : (j : Int) < O.length := by omega
      have hj4 : j < 10000 := by omega
      have hdrop : O.drop j = n :: O.drop (j + 1) := by
        obtain ⟨hlt, e⟩ := List.getElem?_eq_some_iff.1 hn
        rw [List.drop_eq_getElem_cons hlt, e]
      obtain ⟨N, hN⟩ : ∃ N, N = segN n := ⟨_, rfl⟩
      obtain ⟨rd, hrd⟩ : ∃ rd, rd = dj.read N := ⟨_, rfl⟩
      obtain ⟨hrd1, hrd2⟩ := read_small haj.out N
      rw [← hrd] at hrd1 hrd2
      have HNM := Lib.hid (fun wx (hEx : EnvAt wx) => name_any wx hEx n (by omega))
      have HRD := Lib.hid (fun wx (kx : DkAt wx h dj) => dRead_any wx h dj kx N (by rw [hN]; unfold maxLen; omega))
      have hNl : N.length ≤ maxLen := by rw [hN]; unfold maxLen; omega
      obtain ⟨os, hos⟩ : ∃ os, os = openS dj n := ⟨_, rfl⟩
      have haos : Hid (Wal.Acc c os.2) := by rw [hos]; exact haj.out.openS n
      have hros : os.2.room = dj.room := by rw [hos]; exact openS_room dj n
      have hstep0 := hrem.out
      rw [hdrop, openL, ← hN, ← hrd, ← hos] at hstep0
      have hoe : os = if rd.1.length - (left rd.1).length < rd.1.length then dj.truncate N (rd.1.length - (left rd.1).length) else dj.sync N := by rw [hos, hrd, hN]; rfl
      rw [← hN] at HNM
      rw [← hrd] at HRD
      have hll := left_le rd.1
      obtain ⟨S, er⟩ := rd
      simp only at hrd1 hrd2 HRD hstep0 hoe hll
      replace hstep0 := Lib.hid hstep0
      have hb0 := hiA hkj.out hB
      clear hdrop hN hrd hn hcells hrem hos
      have kj := hkj.out
      rcases hrd2 with rfl | rfl
      · obtain ⟨RL, hRL⟩ : ∃ RL, RL = recs S := ⟨_, rfl⟩
        obtain ⟨sz, hsz⟩ : ∃ sz, sz = S.length - (left S).length := ⟨_, rfl⟩
        have hszz : (S.length : Int) - ((left S).length : Nat) = ((sz : Nat) : Int) := by omega
        have hRLl : RL.length ≤ 10000000 := by rw [hRL]; have := recs_len S; omega
        have hall2 := Lib.hid (fun wx => all_any S wx (by omega))
        have hstep := hstep0.out
        rw [if_neg (fun h => h rfl)] at hstep
        rw [← hRL, ← hsz] at hstep
        rw [← hsz] at hoe
        simp only [← hRL, hszz] at hall2
        have hszl : sz ≤ S.length := by omega
        have hSZ2 : (sz : Int) ≤ 10000000 := by omega
        replace hstep := Lib.hid hstep
        clear hRL hsz hszz hstep0 hll
        have hSl2 : S.length ≤ 10000000 := by omega
        by_cases hcut : sz < S.length
        · have hose : os = dj.truncate N sz := by rw [hoe, if_pos hcut]
          have hcz : (sz : Int) < (S.length : Int) := by omega
          clear hoe
          go_upto_region 10 with (first
            | (go_at_call 25; refine (HNM.out _ (EnvAt.bel hE0.out hoj.out.bel hB4)).mono ?_; rintro e w3 ⟨rfl, hb3⟩; have k3 := hkj.out.below hb3)
            | (go_at_call 23; refine (HRD.out _ k3).mono ?_; rintro e w3b ⟨rfl, hb3b⟩; have hbA := below_trans hb3 hb3b; have kA := hkj.out.below hbA; have oA := hoj.out.trans (Off.of_below hbA hb0))
            | (go_at_call 24; refine (hall2.out _).mono ?_; rintro e w4 ⟨rv, rfl, rbuf, hb4⟩))
          have rbl := Lib.hid hb4
          have kB := kA.below hb4
          have oB := oA.trans (Off.of_below hb4 (hiA kA hB))
          have lB := (hlj.out.below hbA).below hb4
          have abB := (hab.out.below hbA).below hb4
          have obB := (hob.out.below hbA).below hb4
          have rbB := rbuf
          have hcall := Lib.hid (fun wx (kx : DkAt wx h dj) => (dTrunc_any wx h dj B c kx hB haj.out (by omega) (by omega) N sz hNl (by unfold maxLen; omega) : Calls Tryz.prog 41 #[.pointer (some ⟨h.D, 0, none⟩), .string (bs N), .int .i64 (sz : Nat)] wx (DkTo B wx h (dj.truncate N sz).2 (.int .i64 ((dj.truncate N sz).1 : Nat)))))
          replace hcall : Hid (∀ wx, DkAt wx h dj → Calls Tryz.prog 41 #[.pointer (some ⟨h.D, 0, none⟩), .string (bs N), .int .i64 (sz : Nat)] wx (DkTo B wx h os.2 (.int .i64 (os.1 : Nat)))) := by
            have h1 := hcall.out
            rw [← hose] at h1
            exact h1
          by_cases hos0 : os.1 = 0
          · have hos1 : Hid (os.1 = 0) := hos0
            have hstep2 : Hid (openL O d [] 1 0 = openL (O.drop (j + 1)) os.2 (all ++ RL) n sz) := by have := hstep.out; rwa [if_neg (fun h => h hos0)] at this
            rw [hos0] at hcall
            clear hos0 hstep hose
            go_upto_region 12 with (first
              | (go_at_call 25; refine (HNM.out _ (EnvAt.bel hE0.out (oA.trans (Off.of_below rbl.out (hiA kA hB))).bel hB4)).mono ?_; rintro e w5 ⟨rfl, hb5⟩; have k5 := kB.below hb5)
              | (go_at_call 41; refine (hcall.out _ k5).mono ?_; rintro e w6 ⟨rfl, k6, o6⟩))
            have o45 : Off DTs B w4 w6 := (Off.of_below hb5 (hiA kB hB)).trans o6
            have lq := Lib.hid (LgAt.off lB o45)
            have kq := Lib.hid k6
            have oq := Lib.hid (oB.trans (o45.wide dlt))
            have ab := Lib.hid (o45.kc.buf abB nd_rec)
            have rb := Lib.hid (o45.kc.buf rbB nd_rec)
            have ob := Lib.hid (o45.kc.buf obB nd_int)
            clear k5 k6 o6 o45 lB kB oB abB rbB obB hcall hb5

            go_upto_region 17 with fail
            obtain ⟨A7, c7, rfl, hlc7, hcm7⟩ := (SlAt.of_buf ab.out).shape
            have hlen7 : all.length + RL.length ≤ (j + 1) * 10000000 := by omega
            have hsrc := (SlAt.of_buf rb.out).src (P := Tryz.prog) (by decide) (t := 23) Tryz.underlying23 (frcs_one RL)
            replace hsrc := Lib.hid hsrc
            go_upto_region 18 with (at_builtin; refine wpList_append_el rfl (.tmp 63) (.tmp 64) 23 23 rfl rec_ty rfl ab.out rfl hsrc.out (by simp only [maxLen]; omega) (by omega) ?_; intro v8 w8 hb8 ha8 hg8)
            have k8 := kq.out.ap ab.out ha8 ndk_rec
            have l8 : LgAt w8 w.heap.size h ⟨max limit 1, seg, size, false⟩ := Blk.ap lq.out ab.out ha8 (by decide)
            have ob8 := ob.out.keep_ap ab.out ha8 (by decide)
            have o8 := Off.ap oq.out hB0 ha8 hav.out
            have hav8 : ∀ k, v8.ownBlock = some k → w.heap.size ≤ k := hg8.new oq.out.size hav.out
            rw [← frcs_append] at hb8
            have l8 : Blk w8 w.heap.size 82 #[.pointer (some ⟨h.D, 0, none⟩), .int .i64 (max limit 1), .int .i64 (seg : Nat), .int .i64 (size : Nat), .bool false] := l8
            have f2 := l8.free 2
            have f3 := l8.free 3
            obtain ⟨d0, d1, d2, d3, d4⟩ := Blk.c5 l8
            have l9 := (l8.set 2 (.int .i64 (n : Nat))).set 3 (.int .i64 (sz : Nat))
            have k9 := (k8.other l8 ndk_log 2 (.int .i64 (n : Nat))).other (l8.set 2 (.int .i64 (n : Nat))) ndk_log 3 (.int .i64 (sz : Nat))
            have o9 := (o8.trans (Off.set l8 (.inr rfl) hB0 2 (.int .i64 (n : Nat)))).trans (Off.set (l8.set 2 (.int .i64 (n : Nat))) (.inr rfl) hB0 3 (.int .i64 (sz : Nat)))
            have ob9 := (ob8.set_ne l8 (by decide) 2 (.int .i64 (n : Nat))).set_ne (l8.set 2 (.int .i64 (n : Nat))) (by decide) 3 (.int .i64 (sz : Nat))
            have ab9 := (hb8.set_ne l8 (by decide) 2 (.int .i64 (n : Nat))).set_ne (l8.set 2 (.int .i64 (n : Nat))) (by decide) 3 (.int .i64 (sz : Nat))
            have K9 := Lib.hid k9
            have L9 := Lib.hid l9
            have O9 := Lib.hid o9
            have B9 := Lib.hid ob9
            have C9 := Lib.hid ab9
            have V9 := Lib.hid hav8
            clear k8 l8 ob8 o8 hb8 ha8 hg8 k9 l9 o9 ob9 ab9 hav8 ab hsrc
            go_wp2_with fail
            go_roundw
            case rel => exact ⟨j + 1, os.2, all ++ RL, n, sz, by go_num, by omega, by omega, by rw [List.length_append]; omega, haos, hstep2, K9.out, L9.out, O9.out, (by rw [List.length_append]; exact C9.out), V9.out, B9.out⟩
            case measure => simp [intOf]; omega
          · have hfin : Hid (r = (os.1, os.2, (⟨0, 0, 0, false⟩ : Lg), [])) := by
              have h1 := hstep.out
              rw [if_pos hos0] at h1
              have h2 := hrt.out _ h1
              rwa [if_pos hos0] at h2
            have hos2 : ¬ (os.1 : Int) = 0 := by omega
            have hos3 : Hid (¬ os.1 = 0) := hos0
            clear hstep hose
            go_wp2_with (first
              | (go_at_call 25; refine (HNM.out _ (EnvAt.bel hE0.out (oA.trans (Off.of_below rbl.out (hiA kA hB))).bel hB4)).mono ?_; rintro e w5 ⟨rfl, hb5⟩; have k5 := kB.below hb5)
              | (go_at_call 41; refine (hcall.out _ k5).mono ?_; rintro e w6 ⟨rfl, k6, o6⟩))
            go_ret3
            rw [hfin.out]
            exact ⟨k6, oB.trans (((Off.of_below hb5 (hiA kB hB)).trans o6).wide dlt), .inl ⟨hos3.out, rfl⟩⟩
        · have hose : os = dj.sync N := by rw [hoe, if_neg hcut]
          have hcz : ¬ (sz : Int) < (S.length : Int) := by omega
          clear hoe
          go_upto_region 10 with (first
            | (go_at_call 25; refine (HNM.out _ (EnvAt.bel hE0.out hoj.out.bel hB4)).mono ?_; rintro e w3 ⟨rfl, hb3⟩; have k3 := hkj.out.below hb3)
            | (go_at_call 23; refine (HRD.out _ k3).mono ?_; rintro e w3b ⟨rfl, hb3b⟩; have hbA := below_trans hb3 hb3b; have kA := hkj.out.below hbA; have oA := hoj.out.trans (Off.of_below hbA hb0))
            | (go_at_call 24; refine (hall2.out _).mono ?_; rintro e w4 ⟨rv, rfl, rbuf, hb4⟩))
          have rbl := Lib.hid hb4
          have kB := kA.below hb4
          have oB := oA.trans (Off.of_below hb4 (hiA kA hB))
          have lB := (hlj.out.below hbA).below hb4
          have abB := (hab.out.below hbA).below hb4
          have obB := (hob.out.below hbA).below hb4
          have rbB := rbuf
          have hcall := Lib.hid (fun wx (kx : DkAt wx h dj) => dSync_any wx h dj B c kx hB haj.out (by omega) (by omega) N hNl)
          replace hcall : Hid (∀ wx, DkAt wx h dj → Calls Tryz.prog 42 #[.pointer (some ⟨h.D, 0, none⟩), .string (bs N)] wx (DkTo B wx h os.2 (.int .i64 (os.1 : Nat)))) := by
            have h1 := hcall.out
            rw [← hose] at h1
            exact h1
          by_cases hos0 : os.1 = 0
          · have hos1 : Hid (os.1 = 0) := hos0
            have hstep2 : Hid (openL O d [] 1 0 = openL (O.drop (j + 1)) os.2 (all ++ RL) n sz) := by have := hstep.out; rwa [if_neg (fun h => h hos0)] at this
            rw [hos0] at hcall
            clear hos0 hstep hose
            go_upto_region 15 with (first
              | (go_at_call 25; refine (HNM.out _ (EnvAt.bel hE0.out (oA.trans (Off.of_below rbl.out (hiA kA hB))).bel hB4)).mono ?_; rintro e w5 ⟨rfl, hb5⟩; have k5 := kB.below hb5)
              | (go_at_call 42; refine (hcall.out _ k5).mono ?_; rintro e w6 ⟨rfl, k6, o6⟩))
            have o45 : Off DTs B w4 w6 := (Off.of_below hb5 (hiA kB hB)).trans o6
            have lq := Lib.hid (LgAt.off lB o45)
            have kq := Lib.hid k6
            have oq := Lib.hid (oB.trans (o45.wide dlt))
            have ab := Lib.hid (o45.kc.buf abB nd_rec)
            have rb := Lib.hid (o45.kc.buf rbB nd_rec)
            have ob := Lib.hid (o45.kc.buf obB nd_int)
            clear k5 k6 o6 o45 lB kB oB abB rbB obB hcall hb5

            go_upto_region 17 with fail
            obtain ⟨A7, c7, rfl, hlc7, hcm7⟩ := (SlAt.of_buf ab.out).shape
            have hlen7 : all.length + RL.length ≤ (j + 1) * 10000000 := by omega
            have hsrc := (SlAt.of_buf rb.out).src (P := Tryz.prog) (by decide) (t := 23) Tryz.underlying23 (frcs_one RL)
            replace hsrc := Lib.hid hsrc
            go_upto_region 18 with (at_builtin; refine wpList_append_el rfl (.tmp 63) (.tmp 64) 23 23 rfl rec_ty rfl ab.out rfl hsrc.out (by simp only [maxLen]; omega) (by omega) ?_; intro v8 w8 hb8 ha8 hg8)
            have k8 := kq.out.ap ab.out ha8 ndk_rec
            have l8 : LgAt w8 w.heap.size h ⟨max limit 1, seg, size, false⟩ := Blk.ap lq.out ab.out ha8 (by decide)
            have ob8 := ob.out.keep_ap ab.out ha8 (by decide)
            have o8 := Off.ap oq.out hB0 ha8 hav.out
            have hav8 : ∀ k, v8.ownBlock = some k → w.heap.size ≤ k := hg8.new oq.out.size hav.out
            rw [← frcs_append] at hb8
            have l8 : Blk w8 w.heap.size 82 #[.pointer (some ⟨h.D, 0, none⟩), .int .i64 (max limit 1), .int .i64 (seg : Nat), .int .i64 (size : Nat), .bool false] := l8
            have f2 := l8.free 2
            have f3 := l8.free 3
            obtain ⟨d0, d1, d2, d3, d4⟩ := Blk.c5 l8
            have l9 := (l8.set 2 (.int .i64 (n : Nat))).set 3 (.int .i64 (sz : Nat))
            have k9 := (k8.other l8 ndk_log 2 (.int .i64 (n : Nat))).other (l8.set 2 (.int .i64 (n : Nat))) ndk_log 3 (.int .i64 (sz : Nat))
            have o9 := (o8.trans (Off.set l8 (.inr rfl) hB0 2 (.int .i64 (n : Nat)))).trans (Off.set (l8.set 2 (.int .i64 (n : Nat))) (.inr rfl) hB0 3 (.int .i64 (sz : Nat)))
            have ob9 := (ob8.set_ne l8 (by decide) 2 (.int .i64 (n : Nat))).set_ne (l8.set 2 (.int .i64 (n : Nat))) (by decide) 3 (.int .i64 (sz : Nat))
            have ab9 := (hb8.set_ne l8 (by decide) 2 (.int .i64 (n : Nat))).set_ne (l8.set 2 (.int .i64 (n : Nat))) (by decide) 3 (.int .i64 (sz : Nat))
            have K9 := Lib.hid k9
            have L9 := Lib.hid l9
            have O9 := Lib.hid o9
            have B9 := Lib.hid ob9
            have C9 := Lib.hid ab9
            have V9 := Lib.hid hav8
            clear k8 l8 ob8 o8 hb8 ha8 hg8 k9 l9 o9 ob9 ab9 hav8 ab hsrc
            go_wp2_with fail
            go_roundw
            case rel => exact ⟨j + 1, os.2, all ++ RL, n, sz, by go_num, by omega, by omega, by rw [List.length_append]; omega, haos, hstep2, K9.out, L9.out, O9.out, (by rw [List.length_append]; exact C9.out), V9.out, B9.out⟩
            case measure => simp [intOf]; omega
          · have hfin : Hid (r = (os.1, os.2, (⟨0, 0, 0, false⟩ : Lg), [])) := by
              have h1 := hstep.out
              rw [if_pos hos0] at h1
              have h2 := hrt.out _ h1
              rwa [if_pos hos0] at h2
            have hos2 : ¬ (os.1 : Int) = 0 := by omega
            have hos3 : Hid (¬ os.1 = 0) := hos0
            clear hstep hose
            go_wp2_with (first
              | (go_at_call 25; refine (HNM.out _ (EnvAt.bel hE0.out (oA.trans (Off.of_below rbl.out (hiA kA hB))).bel hB4)).mono ?_; rintro e w5 ⟨rfl, hb5⟩; have k5 := kB.below hb5)
              | (go_at_call 42; refine (hcall.out _ k5).mono ?_; rintro e w6 ⟨rfl, k6, o6⟩))
            go_ret3
            rw [hfin.out]
            exact ⟨k6, oB.trans (((Off.of_below hb5 (hiA kB hB)).trans o6).wide dlt), .inl ⟨hos3.out, rfl⟩⟩
      · have hfin : Hid (r = (5, dj, (⟨0, 0, 0, false⟩ : Lg), [])) := by
          have h1 := hstep0.out
          rw [if_pos (show (5 : Nat) ≠ 0 by decide)] at h1
          have h2 := hrt.out _ h1
          rwa [if_pos (show (5 : Nat) ≠ 0 by decide)] at h2
        clear hstep0 hoe
        go_wp2_with (first
          | (go_at_call 25; refine (HNM.out _ (EnvAt.bel hE0.out hoj.out.bel hB4)).mono ?_; rintro e w3 ⟨rfl, hb3⟩; have k3 := hkj.out.below hb3)
          | (go_at_call 23; refine (HRD.out _ k3).mono ?_; rintro e w3b ⟨rfl, hb3b⟩; have hbA := below_trans hb3 hb3b; have kA := hkj.out.below hbA; have oA := hoj.out.trans (Off.of_below hbA hb0)))
        go_ret3
        rw [hfin.out]
        exact ⟨kA, oA, .inl ⟨show (5 : Nat) ≠ 0 by decide, rfl⟩⟩
    · have hje : j = O.length := by omega
      have hfin : Hid (r = (0, dj, (⟨max limit 1, seg, size, false⟩ : Lg), since all)) := by
        have h1 := hrem.out
        rw [hje, List.drop_length, openL] at h1
        have h2 := hrt.out _ h1
        rw [if_neg (fun h => h rfl), hMx.out] at h2
        exact h2
      have hj2 : (O.length : Int) ≤ (j : Int) := by omega
      have hallz : all.length ≤ 100000000000 := by omega
      have hsl : (since all).length ≤ all.length := by
        unfold since
        rw [List.length_reverse]
        exact Nat.le_trans (List.takeWhile_sublist _).length_le (by rw [List.length_reverse]; exact Nat.le_refl _)
      have hba : Below wr.heap.size wr (wr.alloc (.cells #[] 34)) := (Below.refl _ _).alloc (Nat.le_refl _) _
      have kz := hkj.out.below hba
      have lz := hlj.out.below hba
      have oz := hoj.out.trans (Off.of_below hba (hiA hkj.out hB))
      have hrec := SlAt.below (SlAt.of_buf hab.out) hba
      have hsin := Lib.hid (since_any _ all _ hrec)
      have hbz := Lib.hid (NBuf.lit0 (Below.refl _ wr) 34 2).buf
      clear hjl hrem hrec hje
      obtain ⟨SN, hSN⟩ : ∃ SN, SN = since all := ⟨_, rfl⟩
      rw [← hSN] at hfin hsin hsl
      clear hSN
      go_wp2_with (first
        | (go_at_call 43; refine hsin.out.mono ?_; rintro e w3 ⟨v3, rfl, hrv, rfl⟩; have hsrc := (show SlAt _ 2 v3 SN.length (frcs SN) from hrv).src (P := Tryz.prog) (by decide) (t := 23) Tryz.underlying23 (frcs_one SN); have hsr := Lib.hid hsrc; clear hsrc)
        | (at_builtin; refine wpList_append_el rfl (.tmp 76) (.tmp 78) 23 23 rfl rec_ty rfl hbz.out rfl hsr.out (by simp only [maxLen]; omega) (by omega) ?_; intro v8 w8 hb8 ha8 hg8))
      go_ret3
      rw [hfin.out]
      rw [Nat.zero_add, List.nil_append] at hb8
      exact ⟨kz.ap hbz.out ha8 ndk_rec, Off.ap oz hB0 ha8 (by
        intro k hk
        have h1 := hoj.out.size
        have h2 : wr.heap.size = k := by injection hk
        rw [← h2]; exact h1), .inr ⟨rfl, _, v8, rfl, Blk.ap lz hbz.out ha8 (by decide), Nat.le_refl _, hb8⟩⟩
end Go.Proofs.YtcopknopifbebaaGreatDoor

/-
  Layer 11 (wal): plain: what the laws say of a log, step by step: recoveries; any calls with crashes and faults; restarts; no program in sight; no condition.
-/
namespace Go.Bar.Wal
open Go.RowKit Go.Bar Go.Bar.Leb Go.Bar.Frm

structure Few (rs : List Rc) : Prop where
  dat : ∀ r ∈ rs, r.2.length ≤ 1048576
  knd : ∀ r ∈ rs, r.1 ≠ 255
theorem Few.nil : Few [] := ⟨fun r hr => (by cases hr), fun r hr => (by cases hr)⟩
theorem Few.append {a b : List Rc} (ha : Few a) (hb : Few b) : Few (a ++ b) := ⟨fun r hr => (List.mem_append.1 hr).elim (ha.dat r) (hb.dat r), fun r hr => (List.mem_append.1 hr).elim (ha.knd r) (hb.knd r)⟩
theorem Few.take {a : List Rc} (h : Few a) (j : Nat) : Few (a.take j) := ⟨fun r hr => h.dat r (List.mem_of_mem_take hr), fun r hr => h.knd r (List.mem_of_mem_take hr)⟩
theorem Few.drop {a : List Rc} (h : Few a) (j : Nat) : Few (a.drop j) := ⟨fun r hr => h.dat r (List.mem_of_mem_drop hr), fun r hr => h.knd r (List.mem_of_mem_drop hr)⟩
theorem Few.since {a : List Rc} (h : Few a) : Wal.since a = a := by
  have := since_append [] h.knd
  rw [List.nil_append] at this
  exact this

structure RecI (c : Nat) (l more : List Rc) (d : Ds) : Prop where
  ex : ∃ ns A t su i, LI d.fs ns A t su ∧ Tail (more.drop i) t ∧ ns.flatMap A = l ++ more.take i
  acc : Acc c d
theorem RecI.start {c : Nat} {l more : List Rc} {d : Ds} {g : Lg} {ns : List Nat} {A : Nat → List Rc} (h : LG d g ns A) (hf : ns.flatMap A = l) (hacc : Acc c d) (hm : Few more) (hfree : ((laid more).length : Int) ≤ d.free) (hseg : g.seg + 1 < 100000000) : RecI (c + 1) l more (wAppend d g more).2.1 := by
  have ha := append_any h hm.dat hfree hseg
  refine ⟨?_, hacc.wAppend g more⟩
  rcases ha.err with e | e
  · rcases ha.ok e with ⟨h1, h2, _⟩ | ⟨ns', A', _, hl, h2⟩
    · rw [h2]; exact ⟨ns, A, [], 0, 0, h.li, Tail.nil _, by rw [hf, List.take_zero, List.append_nil]⟩
    · exact ⟨ns', A', [], 0, more.length, hl.li, Tail.nil _, by rw [h2, hf, List.take_length]⟩
  · obtain ⟨_, ns', A', t, su, h1, h2, h3, _⟩ := ha.bad e
    exact ⟨ns', A', t, su, 0, h1, h2, by rw [h3, hf, List.take_zero, List.append_nil]⟩
theorem RecI.fuse {c : Nat} {l more : List Rc} {d : Ds} (h : RecI c l more d) {z : Fz} (hz : z.q.length ≤ 16) : RecI c l more { d with fz := z } := ⟨h.ex, h.acc.fuse hz⟩
theorem RecI.crash {c : Nat} {l more : List Rc} {d : Ds} (h : RecI c l more d) (cs : List Int) : RecI c l more (d.crash cs) := by
  obtain ⟨ns, A, t, su, i, h1, h2, h3⟩ := h.ex
  obtain ⟨k, _, h4⟩ := h1.crash cs
  exact ⟨⟨ns, A, _, _, i, h4, h2.take k, h3⟩, h.acc.crash cs⟩
theorem RecI.open_ {c : Nat} {l more : List Rc} {d : Ds} (h : RecI c l more d) (hm : Few more) (limit : Int) : RecI c l more (wOpen d limit).2.1 ∧ ((wOpen d limit).1 = 0 ∨ (wOpen d limit).1 = 8) := by
  obtain ⟨ns, A, t, su, i, h1, h2, h3⟩ := h.ex
  obtain ⟨⟨t', su', g1, g2⟩, g3, _⟩ := wOpen_any h1 h2 (hm.drop i).dat limit
  exact ⟨⟨⟨ns, A, t', su', i, g1, g2, h3⟩, h.acc.wOpen limit⟩, g3⟩
theorem RecI.end_ {c : Nat} {l more : List Rc} {d : Ds} (h : RecI c l more d) (hl : Few l) (hm : Few more) (hz : d.fz = Fz.none_) (limit : Int) : ∃ j d' g', wOpen d limit = (0, d', g', l ++ more.take j) := by
  obtain ⟨ns, A, t, su, i, h1, h2, h3⟩ := h.ex
  obtain ⟨j, d', g', A', e, _⟩ := wOpen_calm h1 h2 (hm.drop i).dat limit hz
  refine ⟨i + j, d', g', ?_⟩
  rw [e, h3, List.append_assoc, ← List.take_add, (hl.append (hm.take (i + j))).since]

structure PlayI (lim : Int) (c : Nat) (sure loose : List Rc) (other : Option (List Rc)) (d : Ds) (g : Lg) : Prop where
  lm : g.limit = lim
  acc : Acc c d
  rm : d.room = 1048576
  us : d.used ≤ 1000 * c
  sg : g.seg ≤ c + 1
  fs : Few sure
  fl : Few loose
  fo : ∀ o, other = some o → Few o
  ok : g.broken = false → ∃ ns A, LG d g ns A ∧ since (ns.flatMap A) = sure
  bad : g.broken = true → ∃ ns A t su b, LI d.fs ns A t su ∧ Tail b t ∧ (∀ n ∈ ns, n ≤ c + 1) ∧ ((since (ns.flatMap A) = sure ∧ b = loose) ∨ (∃ o, other = some o ∧ since (ns.flatMap A) = o ∧ b = []))
def Found (got sure loose : List Rc) (other : Option (List Rc)) : Prop := (∃ j, got = sure ++ loose.take j) ∨ other = some got
section
variable {lim : Int} {c : Nat} {sure loose : List Rc} {other : Option (List Rc)} {d : Ds} {g : Lg} {rs : List Rc}
theorem play_down (hb : g.broken = true) : wAppend d g rs = (9, d, g) ∧ wRestart d g rs = (9, d, g) := by
  unfold wAppend wRestart
  rw [if_pos hb, if_pos hb]
  exact ⟨rfl, rfl⟩
theorem PlayI.mono (h : PlayI lim c sure loose other d g) : PlayI lim (c + 1) sure loose other d g :=
  ⟨h.lm, h.acc.mono (Nat.le_succ _), h.rm, by have := h.us; omega, by have := h.sg; omega, h.fs, h.fl, h.fo, h.ok, fun hb => by
    obtain ⟨ns, A, t, su, b, h1, h2, h3, h4⟩ := h.bad hb
    exact ⟨ns, A, t, su, b, h1, h2, fun n hn => Nat.le_succ_of_le (h3 n hn), h4⟩⟩
theorem PlayI.app (h : PlayI lim c sure loose other d g) (hb : g.broken = false) (hr : Few rs) (hl : (laid rs).length ≤ 1000) (hc : c < 100) :
    (∃ d' g', wAppend d g rs = (0, d', g') ∧ PlayI lim (c + 1) (sure ++ rs) loose other d' g') ∨ (∃ d' g', wAppend d g rs = (8, d', g') ∧ PlayI lim (c + 1) sure rs other d' g') := by
  obtain ⟨ns, A, hg, hs⟩ := h.ok hb
  have hus := h.us
  have hrm := h.rm
  have hsg := h.sg
  have ha := append_any hg hr.dat (by unfold Ds.free; omega) (by omega)
  have hacc := h.acc.wAppend g rs
  have hu := ha.used
  have hroom := ha.room
  have hlim := ha.lim
  have hseg := ha.seg
  have herr := ha.err
  have hok := ha.ok
  have hbad := ha.bad
  obtain ⟨e, d', g', he⟩ : ∃ e d' g', wAppend d g rs = (e, d', g') := ⟨_, _, _, rfl⟩
  rw [he] at hacc hu hroom hlim hseg herr hok hbad
  simp only at hacc hu hroom hlim hseg herr hok hbad
  rcases herr with rfl | rfl
  · left
    rcases hok rfl with ⟨rfl, rfl, rfl⟩ | ⟨ns', A', _, hl', h2⟩
    · refine ⟨_, _, he, ?_⟩
      rw [List.append_nil]
      exact h.mono
    · refine ⟨d', g', he, hlim.trans h.lm, hacc, hroom.trans hrm, by omega, by omega, h.fs.append hr, h.fl, h.fo, fun _ => ⟨ns', A', hl', ?_⟩, fun hbb => by rw [hl'.nb] at hbb; cases hbb⟩
      rw [h2, since_append _ hr.knd, hs]
  · right
    obtain ⟨h1, ns', A', t, su, h2, h3, h4, h5⟩ := hbad rfl
    refine ⟨d', g', he, hlim.trans h.lm, hacc, hroom.trans hrm, by omega, by omega, h.fs, hr, h.fo, fun hbb => (by rw [h1] at hbb; cases hbb), fun _ => ⟨ns', A', t, su, rs, h2, h3, fun n hn => by have := h5 n hn; omega, .inl ⟨by rw [h4, hs], rfl⟩⟩⟩
theorem PlayI.rst (h : PlayI lim c sure loose other d g) (hb : g.broken = false) (hr : Few rs) (hl : (laid (reset rs)).length ≤ 1000) (hc : c < 100) :
    (∃ d' g', wRestart d g rs = (0, d', g') ∧ PlayI lim (c + 1) rs loose other d' g') ∨ (∃ d' g', wRestart d g rs = (8, d', g') ∧ PlayI lim (c + 1) sure loose (some rs) d' g') := by
  obtain ⟨ns, A, hg, hs⟩ := h.ok hb
  have hus := h.us
  have hrm := h.rm
  have hsg := h.sg
  have ha := restart_any hg hr.dat (by unfold Ds.free; omega) (by omega)
  have hacc := h.acc.wRestart g rs
  have hu := ha.used
  have hroom := ha.room
  have hlim := ha.lim
  have hseg := ha.seg
  have herr := ha.err
  have hok := ha.ok
  have hbad := ha.bad
  obtain ⟨e, d', g', he⟩ : ∃ e d' g', wRestart d g rs = (e, d', g') := ⟨_, _, _, rfl⟩
  rw [he] at hacc hu hroom hlim hseg herr hok hbad
  simp only at hacc hu hroom hlim hseg herr hok hbad
  have hreset : ∀ X : List Rc, since (X ++ reset rs) = rs := fun X => since_reset X [] hr.knd
  rcases herr with rfl | rfl
  · left
    have hl' := hok rfl
    refine ⟨d', g', he, hlim.trans h.lm, hacc, hroom.trans hrm, by omega, by omega, hr, h.fl, h.fo, fun _ => ⟨_, _, hl', ?_⟩, fun hbb => by rw [hl'.nb] at hbb; cases hbb⟩
    have := hreset []
    rw [List.nil_append] at this
    rw [List.flatMap_cons, List.flatMap_nil, List.append_nil, updA_self, this]
  · right
    obtain ⟨h1, ns', A', h2, h5, h4⟩ := hbad rfl
    refine ⟨d', g', he, hlim.trans h.lm, hacc, hroom.trans hrm, by omega, by omega, h.fs, h.fl, fun o ho => (Option.some.inj ho) ▸ hr, fun hbb => (by rw [h1] at hbb; cases hbb), fun _ => ?_⟩
    rcases h4 with h4 | ⟨X, h4⟩
    · exact ⟨ns', A', [], 0, loose, h2, Tail.nil _, fun n hn => by have := h5 n hn; omega, .inl ⟨by rw [h4, hs], rfl⟩⟩
    · exact ⟨ns', A', [], 0, [], h2, Tail.nil _, fun n hn => by have := h5 n hn; omega, .inr ⟨rs, rfl, by rw [h4, hreset], rfl⟩⟩
theorem PlayI.fuse (h : PlayI lim c sure loose other d g) {z : Fz} (hz : z.q.length ≤ 16) : PlayI lim c sure loose other { d with fz := z } g :=
  ⟨h.lm, h.acc.fuse hz, h.rm, h.us, h.sg, h.fs, h.fl, h.fo, fun hb => by
    obtain ⟨ns, A, h1, h2⟩ := h.ok hb
    exact ⟨ns, A, ⟨h1.li, h1.nb, h1.at_, h1.lo⟩, h2⟩, h.bad⟩
theorem PlayI.files (h : PlayI lim c sure loose other d g) : ∃ ns A t su b, LI d.fs ns A t su ∧ Tail b t ∧ (∀ n ∈ ns, n ≤ c + 1) ∧ ((since (ns.flatMap A) = sure ∧ b = loose) ∨ (∃ o, other = some o ∧ since (ns.flatMap A) = o ∧ b = [])) := by
  cases hb : g.broken with
  | true => exact h.bad hb
  | false =>
    obtain ⟨ns, A, h1, h2⟩ := h.ok hb
    refine ⟨ns, A, [], 0, loose, h1.li, Tail.nil _, fun n hn => ?_, .inl ⟨h2, rfl⟩⟩
    have hsg := h.sg
    rcases h1.at_ with ⟨h3, _⟩ | ⟨h3, _⟩
    · have := ris_lt_last h1.li.ris h3 n hn; omega
    · rw [h3] at hn; cases hn
theorem PlayI.open_ (h : PlayI lim c sure loose other d g) {d2 : Ds} (hd : (∃ cs, d2 = d.crash cs) ∨ d2 = { d with fz := Fz.none_ }) {limit : Int} (hlim : lim = max limit 1) :
    ∃ got d' g', wOpen d2 limit = (0, d', g', got) ∧ Found got sure loose other ∧ PlayI lim (c + 1) got [] none d' g' := by
  obtain ⟨ns, A, t, su, b, h1, h2, h3, h4⟩ := h.files
  have hfb : Few b := by
    rcases h4 with ⟨_, rfl⟩ | ⟨_, _, _, rfl⟩
    · exact h.fl
    · exact Few.nil
  have hd2 : ∃ t' su', LI d2.fs ns A t' su' ∧ Tail b t' ∧ d2.fz = Fz.none_ ∧ d2.room = d.room ∧ Acc c d2 ∧ d2.used ≤ d.used := by
    rcases hd with ⟨cs, rfl⟩ | rfl
    · obtain ⟨k, _, hk⟩ := h1.crash cs
      exact ⟨_, _, hk, h2.take k, rfl, rfl, h.acc.crash cs, by show d.used - (lost d.fs cs : Nat) ≤ d.used; omega⟩
    · exact ⟨t, su, h1, h2, rfl, rfl, h.acc.fuse (Nat.zero_le _), Int.le_refl _⟩
  obtain ⟨t', su', g1, g2, g3, g4, g5, g6⟩ := hd2
  obtain ⟨j, d', g', A', e, e1, e2, e3, e4, e5, e6, e7⟩ := wOpen_calm g1 g2 hfb.dat limit g3
  have hus := h.us
  have hacc := g5.wOpen limit
  rw [e] at hacc
  have hs : since (ns.flatMap A ++ b.take j) = since (ns.flatMap A) ++ b.take j := since_append _ (hfb.take j).knd
  have hfew : Few (since (ns.flatMap A ++ b.take j)) := by
    rw [hs]
    rcases h4 with ⟨h5, _⟩ | ⟨o, h5, h6, _⟩
    · rw [h5]; exact h.fs.append (hfb.take j)
    · rw [h6]; exact (h.fo o h5).append (hfb.take j)
  refine ⟨_, d', g', e, ?_, e1.trans hlim.symm, hacc.mono (Nat.le_succ _), e5.trans (g4.trans h.rm), by omega, ?_, hfew, Few.nil, fun o ho => (by cases ho), fun _ => ⟨ns, A', e2, by rw [e3]⟩, fun hb => by rw [e2.nb] at hb; cases hb⟩
  · rw [hs]
    rcases h4 with ⟨h5, rfl⟩ | ⟨o, h5, h6, rfl⟩
    · exact .inl ⟨j, by rw [h5]⟩
    · right
      rw [h6, List.take_nil, List.append_nil]; exact h5
  · rcases e2.at_ with ⟨h5, _⟩ | ⟨h5, _⟩
    · have := h3 _ (last_mem' h5); omega
    · have := e7 h5; omega
end
end Go.Bar.Wal

/-
  Layer 11 (wal): plain: what the law of restarts says, step by step: no program in sight; no condition.
-/
namespace Go.Bar.Wal
open Go.RowKit Go.Bar Go.Bar.Leb Go.Bar.Frm

section
variable {d : Ds} {x : Nm}
theorem app_fnd {n : Nm} (s : List UInt8) (h : x ≠ n) : fnd (d.append n s).2.fs x = fnd d.fs x := by
  unfold Ds.append
  split
  · rfl
  · split
    · rfl
    · exact do_fs (P := fun fs => fnd fs x = fnd d.fs x) rfl (by simp only; rw [fnd_put, if_neg h])
theorem sync_fnd {n : Nm} (h : x ≠ n) : fnd (d.sync n).2.fs x = fnd d.fs x := by
  unfold Ds.sync
  split
  · rfl
  · exact do_fs (P := fun fs => fnd fs x = fnd d.fs x) rfl (by simp only; rw [fnd_put, if_neg h])
theorem remove_fnd {n : Nm} (h : x ≠ n) : fnd (d.remove n).2.fs x = fnd d.fs x := by
  unfold Ds.remove
  split
  · rfl
  · exact do_fs (P := fun fs => fnd fs x = fnd d.fs x) rfl (by simp only; rw [fnd_del, if_neg h])
theorem ne_seg (hx : pre.isPrefixOf x = false) (n : Nat) : x ≠ segN n := fun e => by
  rw [e, segN_pre] at hx; cases hx
theorem wAppend_fnd (hx : pre.isPrefixOf x = false) (g : Lg) (rs : List Rc) : fnd (wAppend d g rs).2.1.fs x = fnd d.fs x := by
  unfold wAppend
  split
  · rfl
  · split
    · rfl
    · split
      · rfl
      · simp only
        split
        · split
          · exact app_fnd _ (ne_seg hx _)
          · exact (sync_fnd (ne_seg hx _)).trans (app_fnd _ (ne_seg hx _))
        · split
          · exact app_fnd _ (ne_seg hx _)
          · exact (sync_fnd (ne_seg hx _)).trans (app_fnd _ (ne_seg hx _))
theorem removeL_fnd (hx : pre.isPrefixOf x = false) : ∀ (l : List Nat) (d : Ds), fnd (removeL l d).2.fs x = fnd d.fs x
  | [], d => rfl
  | n :: l, d => by
    rw [removeL]
    split
    · exact remove_fnd (ne_seg hx _)
    · exact (removeL_fnd hx l _).trans (remove_fnd (ne_seg hx _))
end

structure RstI (c U : Nat) (all : List Rc) (d : Ds) (g : Lg) : Prop where
  ex : ∃ ns A, LG d g ns A ∧ ns.flatMap A = all
  z : d.fz = Fz.none_
  acc : Acc c d
  rm : d.room = 1048576
  us : d.used ≤ U
  sg : g.seg ≤ c + 1
  oth : ∀ x, pre.isPrefixOf x = false → fnd d.fs x = none
theorem RstI.start (limit : Int) : RstI 0 0 [] (Ds.new 1048576) ⟨max limit 1, 1, 0, false⟩ :=
  ⟨⟨[], _, (open_new 1048576 limit).2, rfl⟩, rfl, Acc.new _, rfl, Int.le_refl _, Nat.le_refl _, fun _ _ => rfl⟩
theorem RstI.app {c U : Nat} {all rs : List Rc} {d : Ds} {g : Lg} (h : RstI c U all d g) (hr : Few rs) (hl : (laid rs).length ≤ 1000) (hU : U ≤ 100000) (hc : c < 100) : ∃ d' g', wAppend d g rs = (0, d', g') ∧ RstI (c + 1) (U + 1000) (all ++ rs) d' g' := by
  obtain ⟨⟨ns, A, hg, hf⟩, hz, hacc, hrm, hus, hsg, hoth⟩ := h
  have ha := append_any hg hr.dat (by unfold Ds.free; omega) (by omega)
  have hacc' := hacc.wAppend g rs
  have ho := fun x hx => (wAppend_fnd (d := d) (x := x) hx g rs).trans (hoth x hx)
  have hcalm := ha.calm hz
  have hu := ha.used
  have hroom := ha.room
  have hseg := ha.seg
  have hok := ha.ok hcalm.1
  obtain ⟨e, d', g', he⟩ : ∃ e d' g', wAppend d g rs = (e, d', g') := ⟨_, _, _, rfl⟩
  rw [he] at hacc' hu hroom hseg hok hcalm ho
  simp only at hacc' hu hroom hseg hok hcalm ho
  obtain ⟨rfl, hz'⟩ := hcalm
  refine ⟨d', g', he, ?_, hz', hacc', hroom.trans hrm, by omega, by omega, ho⟩
  rcases hok with ⟨rfl, rfl, rfl⟩ | ⟨ns', A', _, hl', h2⟩
  · exact ⟨ns, A, hg, by rw [hf, List.append_nil]⟩
  · exact ⟨ns', A', hl', by rw [h2, hf]⟩
theorem RstI.rst {c U : Nat} {all rs : List Rc} {d : Ds} {g : Lg} (h : RstI c U all d g) (hr : Few rs) (hl : (laid (reset rs)).length ≤ 1000) (hU : U ≤ 100000) (hc : c < 100) :
    ∃ d' g' m, wRestart d g rs = (0, d', g') ∧ RstI (c + 1) (U + 1000) (reset rs) d' g' ∧ d'.list pre = [segN m] ∧ d'.list [] = [segN m] := by
  obtain ⟨⟨ns, A, hg, hf⟩, hz, hacc, hrm, hus, hsg, hoth⟩ := h
  have hfree : ((laid (reset rs)).length : Int) ≤ d.free := by unfold Ds.free; omega
  have ha := restart_any hg hr.dat hfree (by omega)
  have hacc' := hacc.wRestart g rs
  have hcalm := ha.calm hz
  have hu := ha.used
  have hroom := ha.room
  have hseg := ha.seg
  have hok := ha.ok hcalm.1
  have ho : ∀ x, pre.isPrefixOf x = false → fnd (wRestart d g rs).2.1.fs x = none := fun x hx => by
    obtain ⟨d1, e1, _, _, _, _, f1⟩ := fresh_calm (n := segN (g.seg + 1)) (s := laid (reset rs)) hacc.srt hz (segN_good (by omega)) (seg_ne_tmp _) hfree
    unfold wRestart
    rw [if_neg (by rw [hg.nb]; decide), if_neg (by omega), e1]
    simp only [ne_eq, not_true_eq_false, if_false]
    rw [removeL_fnd hx, f1, if_neg (ne_seg hx _)]
    split
    · rfl
    · exact hoth x hx
  obtain ⟨e, d', g', he⟩ : ∃ e d' g', wRestart d g rs = (e, d', g') := ⟨_, _, _, rfl⟩
  rw [he] at hacc' hu hroom hseg hok hcalm ho
  simp only at hacc' hu hroom hseg hok hcalm ho
  obtain ⟨rfl, hz'⟩ := hcalm
  have hlist := hok.li.list
  refine ⟨d', g', g.seg + 1, he, ⟨⟨_, _, hok, by rw [List.flatMap_cons, List.flatMap_nil, List.append_nil, updA_self]⟩, hz', hacc', hroom.trans hrm, by omega, by omega, ho⟩, hlist, ?_⟩
  have h2 : d'.list [] = d'.list pre := by
    unfold Ds.list
    refine (List.filter_eq_self.2 fun n _ => rfl).trans (List.filter_eq_self.2 fun n hn => ?_).symm
    cases hp : pre.isPrefixOf n with
    | true => rfl
    | false =>
      have := ho n hp
      have h3 := fnd_some_iff.2 hn
      rw [this] at h3; cases h3
  rw [h2, hlist]; rfl
theorem RstI.open_ {c U : Nat} {all : List Rc} {d : Ds} {g : Lg} (h : RstI c U all d g) (limit : Int) : ∃ d' g', wOpen d limit = (0, d', g', since all) ∧ d'.fz = Fz.none_ ∧ Acc c d' ∧ d'.room = 1048576 ∧ d'.used ≤ U := by
  obtain ⟨⟨ns, A, hg, hf⟩, hz, hacc, hrm, hus, _, _⟩ := h
  obtain ⟨j, d', g', A', e, _, _, _, e4, e5, e6, _⟩ := wOpen_calm hg.li (Tail.nil []) (fun r hr => by cases hr) limit hz
  have ha := hacc.wOpen limit
  rw [e] at ha
  rw [List.take_nil, List.append_nil, hf] at e
  exact ⟨d', g', e, e4, ha, e5.trans hrm, by omega⟩
end Go.Bar.Wal
