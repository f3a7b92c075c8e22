/-
  Layer 6: the walk of label's Parse: a range over strings.SplitSeq.
-/
import Derived.Test.YtgabmfibfikdbaaGreatDoorZLabD
import Derived.Test.YtgabmfibfikdbaaGreatDoorZMetA
import Derived.Test.YtgabmfibfikdbaaGreatDoorZLebA
import Derived.Test.YtgabmfibfikdbaaGreatDoorZLib8
import Derived.Test.YtgabmfibfikdbaaGreatDoorZLib12
import Derived.Deep.QuietTactic
import Derived.BigQuiet

namespace Go.Proofs.YtgabmfibfikdbaaGreatDoor
open Go.RowKit Go.Bar Go.Bar.Leb Go.Bar.Lab
attribute [local go_sem] Oper.semAt_some

theorem pairsOf_snoc : ∀ (l : List (List UInt8)) (x : List UInt8) (ps : List Pr) (p : Pr), pairsOf l = some ps → cutEq x = some p → pairsOf (l ++ [x]) = some (ps ++ [p])
  | [], x, ps, p, h, hx => by
    simp [pairsOf] at h
    subst h
    simp [pairsOf, hx]
  | y :: l, x, ps, p, h, hx => by
    unfold pairsOf at h
    rw [List.cons_append, pairsOf]
    rcases hy : cutEq y with _ | q
    · rw [hy] at h; simp at h
    · rw [hy] at h
      simp only at h ⊢
      rcases hl : pairsOf l with _ | qs
      · rw [hl] at h; simp at h
      · rw [hl] at h
        simp at h
        subst h
        rw [pairsOf_snoc l x qs p hl hx]
        rfl
theorem pairsOf_mem : ∀ (l : List (List UInt8)) (x : List UInt8), x ∈ l → cutEq x = none → pairsOf l = none
  | [], _, h, _ => by cases h
  | y :: l, x, h, hx => by
    unfold pairsOf
    rcases List.mem_cons.1 h with rfl | h
    · rw [hx]
    · split
      · rfl
      · rw [pairsOf_mem l x h hx]; rfl
theorem cutEq_len : ∀ (x : List UInt8) (p : Pr), cutEq x = some p → p.1.length ≤ x.length ∧ p.2.length ≤ x.length
  | [], _, h => by simp [cutEq] at h
  | c :: x, p, h => by
    unfold cutEq at h
    split at h
    · injection h with h; subst h; simp
    · rcases hx : cutEq x with _ | q
      · rw [hx] at h; simp at h
      · rw [hx] at h
        simp at h
        subst h
        have := cutEq_len x q hx
        simp
        omega
theorem pairsOf_length : ∀ (l : List (List UInt8)) (ps : List Pr), pairsOf l = some ps → ps.length = l.length
  | [], ps, h => by simp [pairsOf] at h; subst h; rfl
  | y :: l, ps, h => by
    unfold pairsOf at h
    rcases hy : cutEq y with _ | q
    · rw [hy] at h; simp at h
    · rw [hy] at h
      rcases hl : pairsOf l with _ | qs
      · rw [hl] at h; simp at h
      · rw [hl] at h
        simp at h
        subst h
        simp [pairsOf_length l qs hl]
theorem commas_length : ∀ s, (commas s).length ≤ s.length + 1
  | [] => by simp [commas]
  | c :: r => by
    have := commas_length r
    unfold commas
    split
    · simp; omega
    · split
      · simp
      · rename_i h t he
        rw [he] at this
        simp at this ⊢
        omega

theorem _root_.Go.KeepsOthers.drewN (W : World) (n : Nat) : KeepsOthers W (W.drewN n) := ⟨Nat.le_refl _, fun _ _ h _ => h⟩

theorem _root_.Go.Bar.Blk.new_at {w : World} {cur : Array Value} {T : TypeId} {k : Nat} (h : w.heap.size = k) : Blk (w.alloc (.cells cur T)) k T cur := h ▸ Blk.new w cur T

abbrev Part (s : List UInt8) := { x : List UInt8 // x.length ≤ s.length }
structure SpA (w : World) (B : Nat) : Prop where
  b0 : ∃ cur, Blk w B 9 cur
  b1 : ∃ cur, Blk w (B + 1) 9 cur
  b2 : ∃ cur, Blk w (B + 2) 3 cur
theorem SpA.turned {w w' : World} {B : Nat} {row : Option Nat} (h : SpA w B) (hg : w.grownBy w' row) (hr : ∀ r, row = some r → ∃ o : Obj, w.heap[r]? = some o ∧ o.isCells = false) : SpA w' B := by
  obtain ⟨⟨a, ha⟩, ⟨b, hb⟩, c, hc⟩ := h
  exact ⟨⟨a, ha.turned hg hr⟩, ⟨b, hb.turned hg hr⟩, c, hc.turned hg hr⟩
theorem SpA.set {w : World} {B : Nat} (h : SpA w B) (u : Value) : SpA (w.setCell ⟨B, 0, none⟩ u) B := by
  obtain ⟨⟨a, ha⟩, ⟨b, hb⟩, c, hc⟩ := h
  exact ⟨⟨_, ha.set 0 u⟩, ⟨b, hb.other (by omega) 0 u⟩, c, hc.other (by omega) 0 u⟩
theorem SpA.other {w : World} {B M : Nat} (h : SpA w B) (hM : M < B) (u : Value) : SpA (w.setCell ⟨M, 0, none⟩ u) B := by
  obtain ⟨⟨a, ha⟩, ⟨b, hb⟩, c, hc⟩ := h
  exact ⟨⟨_, ha.other (by omega) 0 u⟩, ⟨b, hb.other (by omega) 0 u⟩, c, hc.other (by omega) 0 u⟩
theorem SpA.ap {w w' : World} {B : Nat} (h : SpA w B) {sz n : Nat} {v : Value} {xs : List Value} (hb : Buf w 128 sz v n xs) (ha : Ap w w' sz v) : SpA w' B ∧ ∀ k, B ≤ k → k < B + 3 → w'.heap[k]? = w.heap[k]? := by
  obtain ⟨⟨a, h0⟩, ⟨b, h1⟩, c, h2⟩ := h
  have g0 := h0.ap hb ha (by decide)
  have g1 := h1.ap hb ha (by decide)
  have g2 := h2.ap hb ha (by decide)
  refine ⟨⟨⟨_, g0⟩, ⟨_, g1⟩, _, g2⟩, fun k k1 k2 => ?_⟩
  have : k = B ∨ k = B + 1 ∨ k = B + 2 := by omega
  rcases this with rfl | rfl | rfl
  · exact Eq.trans g0 (Eq.symm h0)
  · exact Eq.trans g1 (Eq.symm h1)
  · exact Eq.trans g2 (Eq.symm h2)
theorem SpA.below {w w' : World} {B : Nat} (h : SpA w B) (hb : Below w.heap.size w w') : SpA w' B := by
  obtain ⟨⟨a, ha⟩, ⟨b, hb1⟩, c, hc⟩ := h
  exact ⟨⟨_, ha.below hb⟩, ⟨b, hb1.below hb⟩, c, hc.below hb⟩

theorem _root_.Go.Bar.Blk.put {w : World} {M D : Nat} {T : TypeId} {cur : Array Value} (h : Blk w M T cur) (hD : w.heap[D]? = some (.deferred (some []))) : Blk (w.putObj D (.deferred none)) M T cur :=
  h.turned (grownBy_putObj' w D _) (fun r e => by cases e; exact ⟨_, hD, rfl⟩)
theorem _root_.Go.Bar.NBuf.put {w0 w : World} {D : Nat} {e : TypeId} {sz n : Nat} {v : Value} {xs : List Value} (h : NBuf w0 w e sz v n xs) (hD : w.heap[D]? = some (.deferred (some []))) (hle : w0.heap.size ≤ D) : NBuf w0 (w.putObj D (.deferred none)) e sz v n xs :=
  ⟨h.buf.turned (grownBy_putObj' w D _) (fun r e => by cases e; exact ⟨_, hD, rfl⟩), h.below.grown (grownBy_putObj' w D _) h.below.size (fun k e => by cases e; exact hle), h.new⟩

structure PI (w W : World) (s : List UInt8) (pre : List (Part s)) (v : Value) (ps : List Pr) : Prop where
  eq : pairsOf (pre.map (·.1)) = some ps
  r0 : Blk W w.heap.size 43 #[.slice none 0 0]
  r1 : Blk W (w.heap.size + 1) 26 #[.int .i64 0]
  l : Blk W (w.heap.size + 1 + 1) 22 #[v]
  b : SpA W (w.heap.size + 1 + 1 + 1)
  buf : NBuf w W 128 2 v ps.length (pcs ps)
  sm : ∀ p ∈ ps, p.1.length ≤ s.length ∧ p.2.length ≤ s.length
structure PX (w W : World) (s : List UInt8) (pre : List (Part s)) : Prop where
  no : ∃ x ∈ pre.map (·.1), cutEq x = none
  r0 : Blk W w.heap.size 43 #[.slice none 0 0]
  r1 : Blk W (w.heap.size + 1) 26 #[.int .i64 3]
  bl : Below w.heap.size w W

def RetPs (w : World) (s : List UInt8) (e : Ending) (w' : World) : Prop := ∃ v, e = .returned (.tuple #[v, .int .i64 ((parse s).2 : Nat)]) ∧ NBuf w w' 128 2 v (parse s).1.length (pcs (parse s).1)

set_option maxHeartbeats 8000000 in
set_option maxRecDepth 10000 in
theorem parse_any6 (s : List UInt8) (w : World) (hs : s.length ≤ 100000) :
    Calls Tryz.prog 94 #[.string (bs s)] w (RetPs w s) := by
  have hcl := commas_length s
  refine (callsIn_wide (n := 9)).1 ?_
  refine callsIn_of_wp_marks Tryz.func94 rfl trivial ?_ rfl
  simp only [Tryz.ntmps94, List.size_toArray, List.length_cons, List.length_nil, Nat.reduceAdd, Nat.reduceSub, Array.replicate_succ, Array.replicate_zero, List.push_toArray, List.append_toArray, List.nil_append, List.cons_append]
  gi_wp2_with (refine ⟨trivial, ?_⟩; gi_at_call 113; refine (callsIn_wide.2 (splitSeq_any s _)).mono ?_; rintro e w' ⟨rfl, rfl⟩)
  refine wpIn_rangeFunc_ownB (w0 := ((w.alloc (.cells #[.slice none 0 0] 43)).alloc (.cells #[.int .i64 0] 26)).alloc (.cells #[.slice none 0 0] 22) |>.alloc (.cells #[.string (bs s)] 9) |>.alloc (.cells #[.string { data := #[44] }] 9) |>.alloc (.cells #[.int .i64 0] 3)) rfl (by omega) (gf := 147) (lb := #[.pointer (some ⟨w.heap.size + 1 + 1 + 1 + 1, 0, none⟩), .pointer (some ⟨w.heap.size + 1 + 1 + 1, 0, none⟩), .pointer (some ⟨w.heap.size + 1 + 1 + 1 + 2, 0, none⟩)]) rfl trivial (enters_of Tryz.func147 (by kernel_rfl) rfl)
    (lo := w.heap.size + 1 + 1 + 1) (up := w.heap.size + 1 + 1 + 1 + 3) (by omega) (split_seq s (by omega) _ (by omega) (w.heap.size + 1 + 1 + 1) _ ?boxes) (by simp) (Below.refl _ _) (fun _ => rfl)
    (fun pre W => ∃ v ps, PI w W s pre v ps) (fun c pre W => c = .ret ∧ PX w W s pre) ?own ?ownx ?store ?start
    (fun x => { tmps := #[.string (bs s), undef, .pointer (some ⟨w.heap.size, 0, none⟩), .pointer (some ⟨w.heap.size + 1, 0, none⟩), .pointer (some ⟨w.heap.size + 1 + 1, 0, none⟩), .string (bs x.1), undef, undef, undef, undef, undef, .string (bs s), .func (.func 147) #[] #[.pointer (some ⟨w.heap.size + 1 + 1 + 1 + 1, 0, none⟩), .pointer (some ⟨w.heap.size + 1 + 1 + 1, 0, none⟩), .pointer (some ⟨w.heap.size + 1 + 1 + 1 + 2, 0, none⟩)], .string (bs x.1), undef, undef, undef, undef, undef, undef, undef, undef, undef, undef, undef, undef, undef, undef, undef, undef, undef, undef, undef, undef, undef, undef, undef], defers := [] }) ?assign ?body ?done ?stop
  case boxes => exact ⟨((Blk.new_at (by simp)).alloc _).alloc _, (Blk.new_at (by simp)).alloc _, Blk.new_at (by simp)⟩
  case own =>
    rintro pre W W' row ⟨v, ps, h⟩ hg hr
    have hr2 : ∀ r, row = some r → ∃ o : Obj, W.heap[r]? = some o ∧ o.isCells = false := fun r e => (hr r e).2
    exact ⟨v, ps, h.eq, h.r0.turned hg hr2, h.r1.turned hg hr2, h.l.turned hg hr2, h.b.turned hg hr2, ⟨h.buf.buf.turned hg hr2, h.buf.below.grown hg h.buf.below.size (fun k e => by have := (hr k e).1; simp at this; omega), h.buf.new⟩, h.sm⟩
  case ownx =>
    rintro c pre W W' row ⟨hc, h⟩ hg hr
    have hr2 : ∀ r, row = some r → ∃ o : Obj, W.heap[r]? = some o ∧ o.isCells = false := fun r e => (hr r e).2
    exact ⟨hc, h.no, h.r0.turned hg hr2, h.r1.turned hg hr2, h.bl.grown hg h.bl.size (fun k e => by have := (hr k e).1; simp at this; omega)⟩
  case store =>
    rintro pre W u ⟨v, ps, h⟩
    obtain ⟨cur, hb⟩ := h.b.b0
    exact ⟨v, ps, h.eq, h.r0.other (by omega) 0 u, h.r1.other (by omega) 0 u, h.l.other (by omega) 0 u, h.b.set u, h.buf.set_ne hb (by decide) (by omega) 0 u, h.sm⟩
  case start =>
    exact ⟨.slice none 0 0, [], rfl, (((((Blk.new_at (by simp)).alloc _).alloc _).alloc _).alloc _).alloc _, ((((Blk.new_at (by simp)).alloc _).alloc _).alloc _).alloc _, (((Blk.new_at (by simp)).alloc _).alloc _).alloc _, ⟨⟨_, ((Blk.new_at (cur := #[.string (bs s)]) (by simp)).alloc _).alloc _⟩, ⟨_, (Blk.new_at (cur := #[.string { data := #[44] }]) (by simp)).alloc _⟩, _, Blk.new_at (cur := #[.int .i64 0]) (by simp)⟩, NBuf.nil ((((((below_alloc1 w _).alloc (by simp) _).alloc (by simp; omega) _).alloc (by simp; omega) _).alloc (by simp; omega) _).alloc (by simp; omega) _) _ _, by simp⟩
  case assign =>
    intro l x W K hK
    gi_wp2
    exact hK
  case body =>
    rintro l pre x W ⟨v, ps, hI⟩ hlt
    have r0 := hI.r0.cell (i := 0) rfl
    have q0 := hI.r0.free 0
    have r1 := hI.r1.cell (i := 0) rfl
    have q1 := hI.r1.free 0
    have r2 := hI.l.cell (i := 0) rfl
    have q2 := hI.l.free 0
    have hcut := fun W => cut1_any x.1 W (Nat.le_trans x.2 (by omega))
    rcases hc : cutEq x.1 with _ | p
    · rw [hc] at hcut
      have HC := Lib.hid hcut
      clear hcut
      gi_wp2_with (refine ⟨trivial, ?_⟩; gi_at_call 114; refine (CallsIn.inRound l (callsIn_wide.2 (HC.out _))).mono ?_; rintro e w' ⟨rfl, q, rfl⟩)
      refine ⟨((KeepsOthers.drewN _ _).trans (KeepsOthers.setCell _ _ _)).trans (KeepsOthers.setCell _ _ _), rfl, ⟨x.1, by simp, hc⟩, ((hI.r0.drewN q).set 0 _).other (by omega) 0 _, ((hI.r1.drewN q).other (by omega) 0 _).set 0 _, ?_⟩
      exact ((hI.buf.below.drewN' q).setCell (p := ⟨w.heap.size, 0, none⟩) (Nat.le_refl _) _).setCell (p := ⟨w.heap.size + 1, 0, none⟩) (Nat.le_succ _) _
    · rw [hc] at hcut
      have HC := Lib.hid hcut
      have hpl := pairsOf_length _ _ hI.eq
      rw [List.length_map] at hpl
      have hcp := cutEq_len _ _ hc
      have hx2 := x.2
      obtain ⟨bA, bc, rfl, hbc⟩ := hI.buf.buf.shape
      have HN := Lib.hid hI.buf
      have HI := Lib.hid hI
      have HPL := Lib.hid hpl
      have hps : ps.length ≤ 100001 := by omega
      clear hcut hI hpl
      gi_wp2_with (first
        | (refine ⟨trivial, ?_⟩; gi_at_call 114; refine (CallsIn.inRound l (callsIn_wide.2 (HC.out _))).mono ?_; rintro e w' ⟨rfl, q, rfl⟩)
        | (gi_at_builtin; refine wpListIn_append_nlit rfl (.tmp 22) (.tmp 26) 22 rfl pair_ty rfl (HN.out.drewN _) rfl (by simp) rfl (by simp [Value.oneCell']) (by simp only [maxLen]; omega) (by omega) ?_; intro v3 w3 hn3 ha3; have ha4 : Ap ((W.drewN q).alloc (.cells #[.string (bs p.1), .string (bs p.2)] 128)) w3 2 (.slice bA ps.length bc) := ha3; have hb4 := ((HN.out.drewN q).alloc (.cells #[.string (bs p.1), .string (bs p.2)] 128)).buf; have HL := Lib.hid (((HI.out.l.drewN q).alloc (.cells #[.string (bs p.1), .string (bs p.2)] 128)).ap hb4 ha4 (by decide)); have HA := Lib.hid ha4; have HB := Lib.hid hb4; have r3 := HL.out.cell (i := 0) rfl; have q3 := HL.out.free 0; have hn4 := hn3.buf.shape; obtain ⟨gA, gc, rfl, hgc⟩ := hn4; have HN3 := Lib.hid hn3; clear hn3 ha3 ha4 hb4))
      have hgr := (HI.out.b.below (((Below.refl _ _).drewN' q).alloc (Nat.le_refl _) (.cells #[.string (bs p.1), .string (bs p.2)] 128))).ap HB.out HA.out
      have hw3 : w.heap.size ≤ W.heap.size := HI.out.buf.below.size
      refine ⟨(((KeepsOthers.drewN W q).trans (KeepsOthers.alloc _ _)).trans HA.out.others).trans (KeepsOthers.setCell _ _ _), fun k k1 k2 => ?_, .slice gA (ps.length + 1) gc, ps ++ [p], ?_⟩
      · rw [Below.heap_setCell w3 ⟨w.heap.size + 1 + 1, 0, none⟩ _ k (by show k ≠ w.heap.size + 1 + 1; omega), hgr.2 k k1 k2]
        exact Lib.alloc_old (W.drewN q) _ k (by
          have h3 := HI.out.b.b2
          obtain ⟨cur, h3⟩ := h3
          have := h3.lt
          show k < W.heap.size
          omega)
      · refine ⟨?_, ?_, ?_, ?_, hgr.1.other (by omega) _, ?_, ?_⟩
        · rw [List.map_append]
          exact pairsOf_snoc _ _ _ _ HI.out.eq hc
        · exact (((HI.out.r0.drewN q).alloc _).ap HB.out HA.out (by decide)).other (by omega) 0 _
        · exact (((HI.out.r1.drewN q).alloc _).ap HB.out HA.out (by decide)).other (by omega) 0 _
        · exact HL.out.set 0 _
        · rw [pcs_snoc, List.length_append]
          exact HN3.out.set_ne HL.out (by decide) (by omega) 0 _
        · intro y hy
          rw [List.mem_append, List.mem_singleton] at hy
          rcases hy with hy | rfl
          · exact HI.out.sm y hy
          · exact ⟨Nat.le_trans hcp.1 hx2, Nat.le_trans hcp.2 hx2⟩
  case done =>
    rintro D xs W hD hS ⟨v, ps, hI⟩ hK
    have hpe := hI.eq
    rw [hS] at hpe
    have hps := pairsOf_length _ _ hpe
    have hD2 : w.heap.size + 6 ≤ D := by simpa using hD
    have hmk := make_any v ps W hI.buf.slice (by omega) (fun p hp => by have := (hI.sm p hp).1; omega)
    have hmk2 : Calls Tryz.prog 115 #[v] W fun e w' => ∃ v2 m, e = .returned (.tuple #[v2, .int .i64 (errL (sorted ps))]) ∧ m.Perm ps ∧ Asc m ∧ NBuf W w' 128 2 v2 m.length (pcs m) := hmk.mono fun _ _ ⟨v2, m, g1, g2, g3, g4⟩ => ⟨v2, m, by rw [g1]; unfold errL; rw [chk_any g2 g3], g2, g3, g4⟩
    have r2 := hI.l.cell (i := 0) rfl
    have hpa : parse s = if chk (sorted ps) = true then (sorted ps, 0) else ([], 12) := by unfold parse; rw [hpe]
    have HI := Lib.hid hI
    have HPA := Lib.hid hpa
    have HK := Lib.hid hK
    by_cases hck : chk (sorted ps) = true
    · rw [show errL (sorted ps) = 0 by unfold errL; rw [if_pos hck]] at hmk2
      have HM := Lib.hid hmk2
      have HCK := Lib.hid hck
      clear hmk hmk2 hI hpe hps hpa hck hK
      gi_wp2_with (refine ⟨trivial, ?_⟩; gi_at_call 115; refine (callsIn_wide.2 HM.out).mono ?_; rintro e W2 ⟨v2, m, rfl, hm1, hm2, hn⟩; obtain ⟨gA, gc, rfl, hgc⟩ := hn.buf.shape; have z0 := (HI.out.r0.below hn.below).cell (i := 0) rfl; have z0f := (HI.out.r0.below hn.below).free 0; have z1 := (HI.out.r1.below hn.below).cell (i := 0) rfl; have z1f := (HI.out.r1.below hn.below).free 0; have HN := Lib.hid hn; have HM1 := Lib.hid hm1; have HM2 := Lib.hid hm2; clear hn hm1 hm2)
      have hKD := HK.out
      have hDlt : D < W.heap.size := (Array.getElem?_eq_some_iff.1 hKD).1
      have y0 := ((HI.out.r0.below HN.out.below).set 0 (.slice gA m.length gc)).other (b := w.heap.size + 1) (by omega) 0 (.int .i64 0)
      have y1 := ((HI.out.r1.below HN.out.below).other (b := w.heap.size) (by omega) 0 (.slice gA m.length gc)).set 0 (.int .i64 0)
      have hm : m = sorted ps := sorted_of HM1.out HM2.out (ok_unlike (chk_iff.1 HCK.out))
      have hNF := ((HN.out.after HI.out.buf.below).set_ne (HI.out.r0.below HN.out.below) (by decide) (Nat.le_refl _) 0 (.slice gA m.length gc)).set_ne ((HI.out.r1.below HN.out.below).other (b := w.heap.size) (by omega) 0 (.slice gA m.length gc)) (by decide) (Nat.le_succ _) 0 (.int .i64 0)
      have hKF : ((W2.setCell ⟨w.heap.size, 0, none⟩ (.slice gA m.length gc)).setCell ⟨w.heap.size + 1, 0, none⟩ (.int .i64 0)).heap[D]? = some (.deferred (some [])) := by
        rw [Below.heap_setCell _ ⟨w.heap.size + 1, 0, none⟩ _ D (by show D ≠ w.heap.size + 1; omega), Below.heap_setCell _ ⟨w.heap.size, 0, none⟩ _ D (by show D ≠ w.heap.size; omega), HN.out.below.block D hDlt]
        exact hKD
      have x0 := (y0.put hKF).cell (i := 0) rfl
      have x1 := (y1.put hKF).cell (i := 0) rfl
      refine ⟨by simp, .inl ⟨_, _, rfl, run_takeDeferred hKF, ?_⟩⟩
      refine ⟨_, by simp [results, Tryz.results94, go_sem, x0, x1]; rfl, ?_⟩
      have hpr : parse s = (m, 0) := by rw [HPA.out, if_pos HCK.out, hm]
      refine ⟨.slice gA m.length gc, ?_, ?_⟩
      · rw [hpr]; rfl
      · rw [hpr]; exact hNF.put hKF (by omega)
    · rw [show errL (sorted ps) = 12 by unfold errL; rw [if_neg hck]] at hmk2
      have HM := Lib.hid hmk2
      have HCK := Lib.hid hck
      clear hmk hmk2 hI hpe hps hpa hck hK
      gi_wp2_with (refine ⟨trivial, ?_⟩; gi_at_call 115; refine (callsIn_wide.2 HM.out).mono ?_; rintro e W2 ⟨v2, m, rfl, hm1, hm2, hn⟩; obtain ⟨gA, gc, rfl, hgc⟩ := hn.buf.shape; have z0 := (HI.out.r0.below hn.below).cell (i := 0) rfl; have z0f := (HI.out.r0.below hn.below).free 0; have z1 := (HI.out.r1.below hn.below).cell (i := 0) rfl; have z1f := (HI.out.r1.below hn.below).free 0; have HN := Lib.hid hn; have HM1 := Lib.hid hm1; have HM2 := Lib.hid hm2; clear hn hm1 hm2)
      have hKD := HK.out
      have hDlt : D < W.heap.size := (Array.getElem?_eq_some_iff.1 hKD).1
      have y0 := ((HI.out.r0.below HN.out.below).set 0 (.slice none 0 0)).other (b := w.heap.size + 1) (by omega) 0 (.int .i64 12)
      have y1 := ((HI.out.r1.below HN.out.below).other (b := w.heap.size) (by omega) 0 (.slice none 0 0)).set 0 (.int .i64 12)
      have hNF := ((HN.out.after HI.out.buf.below).set_ne (HI.out.r0.below HN.out.below) (by decide) (Nat.le_refl _) 0 (.slice none 0 0)).set_ne ((HI.out.r1.below HN.out.below).other (b := w.heap.size) (by omega) 0 (.slice none 0 0)) (by decide) (Nat.le_succ _) 0 (.int .i64 12)
      have hKF : ((W2.setCell ⟨w.heap.size, 0, none⟩ (.slice none 0 0)).setCell ⟨w.heap.size + 1, 0, none⟩ (.int .i64 12)).heap[D]? = some (.deferred (some [])) := by
        rw [Below.heap_setCell _ ⟨w.heap.size + 1, 0, none⟩ _ D (by show D ≠ w.heap.size + 1; omega), Below.heap_setCell _ ⟨w.heap.size, 0, none⟩ _ D (by show D ≠ w.heap.size; omega), HN.out.below.block D hDlt]
        exact hKD
      have x0 := (y0.put hKF).cell (i := 0) rfl
      have x1 := (y1.put hKF).cell (i := 0) rfl
      refine ⟨by simp, .inl ⟨_, _, rfl, run_takeDeferred hKF, ?_⟩⟩
      refine ⟨_, by simp [results, Tryz.results94, go_sem, x0, x1]; rfl, ?_⟩
      have hpr : parse s = ([], 12) := by rw [HPA.out, if_neg HCK.out]
      refine ⟨.slice none 0 0, ?_, ?_⟩
      · rw [hpr]; rfl
      · rw [hpr]; exact NBuf.nil (hNF.put hKF (by omega)).below _ _
  case stop =>
    rintro D c pre W hD hSp ⟨rfl, hX⟩ hK
    have hD2 : w.heap.size + 6 ≤ D := by simpa using hD
    obtain ⟨x, hx1, hx2⟩ := hX.no
    have hpr : parse s = ([], 3) := by
      unfold parse
      rw [pairsOf_mem (commas s) x (hSp.subset hx1) hx2]
    have x0 := (hX.r0.put hK).cell (i := 0) rfl
    have x1 := (hX.r1.put hK).cell (i := 0) rfl
    gi_wp2
    refine ⟨by simp, .inl ⟨_, _, rfl, run_takeDeferred hK, ?_⟩⟩
    refine ⟨_, by simp [results, Tryz.results94, go_sem, x0, x1]; rfl, ?_⟩
    refine ⟨.slice none 0 0, ?_, ?_⟩
    · rw [hpr]; rfl
    · rw [hpr]; exact NBuf.nil (NBuf.put (NBuf.nil hX.bl 128 2) hK (by omega)).below _ _

end Go.Proofs.YtgabmfibfikdbaaGreatDoor

/-
  Layer 6: the laws' helpers: Few, Told, unlike, awake.
-/
namespace Go.Proofs.YtgabmfibfikdbaaGreatDoor
open Go.RowKit Go.Bar Go.Bar.Leb Go.Bar.Lab

def cut42 (p : Pr) : Pr := (p.1.take 42, p.2.take 42)
def few (l : List Pr) : List Pr := (l.take 10).map cut42
theorem few_len (l : List Pr) : (few l).length ≤ 10 := by unfold few; rw [List.length_map, List.length_take]; omega
theorem few_sm (l : List Pr) : ∀ p ∈ few l, p.1.length ≤ 42 ∧ p.2.length ≤ 42 := by
  intro p hp
  unfold few at hp
  obtain ⟨q, _, rfl⟩ := List.mem_map.1 hp
  unfold cut42
  simp only [List.length_take]
  omega
def RetN (w : World) (l : List Pr) (e : Ending) (w' : World) : Prop := ∃ v, e = .returned v ∧ NBuf w w' 128 2 v l.length (pcs l)

set_option maxHeartbeats 4000000 in
set_option maxRecDepth 10000 in
theorem few_any (v : Value) (l : List Pr) (w : World) (h : PsAt w v l) (hp : ∀ p ∈ l, p.1.length ≤ maxLen ∧ p.2.length ≤ maxLen) :
    Calls Tryz.prog 16 #[v] w (RetN w (few l)) := by
  obtain ⟨A, c, rfl, hlc, hcm⟩ := h.shape
  unfold maxLen at hcm
  have HPL := Lib.hid hp
  clear hp
  have hN0 := NBuf.lit0 (Below.refl w.heap.size w) 128 2
  have HN0 := Lib.hid hN0
  clear hN0
  go_enter Tryz.func16, Tryz.ntmps16
  go_wp2_with fail
  go_loopw [4, 3] (fun i d wr => ∃ m : Nat, m ≤ l.length ∧ m ≤ 10 ∧ i = .int .i64 m ∧ Hid (NBuf w wr 128 2 d m (pcs ((l.take m).map cut42)))) (fun i _ _ => 10 - (intOf i).toNat)
  case atStart => exact ⟨0, Nat.zero_le _, by omega, rfl, HN0⟩
  case round =>
    obtain ⟨m, hk, hk10, rfl, hnb⟩ := hrel
    obtain ⟨fA, fc, rfl, hfc⟩ := hnb.out.buf.shape
    by_cases hgo : m < l.length
    · by_cases h10 : m < 10
      · obtain ⟨p, hpk⟩ : ∃ p, l[m]? = some p := ⟨_, List.getElem?_eq_getElem hgo⟩
        have HPM := Lib.hid (HPL.out p (List.mem_of_getElem? hpk))
        obtain ⟨b, o, rfl, hbb, g1, g2⟩ := h.at_ hpk
        have G1 := Lib.hid g1
        have G2 := Lib.hid g2
        have HPK := Lib.hid hpk
        have hc1 := fun w => cut_any (bs p.1) 42 w (by omega) (by omega) HPM.out.1
        have hc2 := fun w => cut_any (bs p.2) 42 w (by omega) (by omega) HPM.out.2
        simp only [bs_data] at hc1 hc2
        have HC1 := Lib.hid hc1
        have HC2 := Lib.hid hc2
        obtain ⟨ys, hys⟩ : ∃ ys, pcs ((l.take m).map cut42) = ys := ⟨_, rfl⟩
        rw [hys] at hnb
        have HYS := Lib.hid hys
        clear hc1 hc2 g1 g2 hpk hys
        go_wp2_with fail
        go_upto_region 5 with fail
        obtain ⟨WS, rfl⟩ : ∃ WS, WS = w := ⟨_, rfl⟩
        refine Dk.wp_region_chain (fun kQ => List.lookup kQ [(5, (isV (.string (bs p.1)), Dk.noK)), (6, (isV (.string (bs (p.1.take 42))), Dk.noK)), (11, (isV (.string (bs p.2)), Dk.noK)), (12, (isV (.string (bs (p.2.take 42))), Dk.noK)), (14, ((fun v => ∃ g, v = .slice (some ⟨g, 0, none⟩) 1 1), Dk.KF 15 (fun v w => Buf w 128 2 v 1 [.string (bs (p.1.take 42)), .string (bs (p.2.take 42))]))), (15, (isSl (m + 1), Dk.KL (fun v w => NBuf WS w 128 2 v (m + 1) (ys ++ [.string (bs (p.1.take 42)), .string (bs (p.2.take 42))]))))]) (Dk.RB 16 [15]) (fun _ w => NBuf WS w 128 2 (.slice fA m fc) m ys) (by kernel_rfl) 33 (by kernel_rfl) rfl ?_ ?_ ?_ ?_ ?_ ?_
        · apply Dk.lookup_all (p := fun _ (g : (Value → Prop) × (Value → (Nat → Bool) → World → Prop)) => ∃ v, g.1 v)
          simp only [List.forall_mem_cons, List.not_mem_nil, false_imp_iff, implies_true, and_true]
          exact ⟨⟨_, rfl⟩, ⟨_, rfl⟩, ⟨_, rfl⟩, ⟨_, rfl⟩, ⟨_, 0, rfl⟩, isSl_some _⟩
        · refine Dk.lookup_all ?_
          simp only [List.forall_mem_cons, List.not_mem_nil, false_imp_iff, implies_true, and_true]
          refine ⟨?_, ?_, ?_, ?_, ?_, ?_⟩
          · exact fun _ _ _ _ _ _ _ _ _ _ _ => trivial
          · exact fun _ _ _ _ _ _ _ _ _ _ _ => trivial
          · exact fun _ _ _ _ _ _ _ _ _ _ _ => trivial
          · exact fun _ _ _ _ _ _ _ _ _ _ _ => trivial
          · exact Dk.KF.keepB (fun _ _ _ hb h => h.below hb) (by kernel_rfl)
          · exact Dk.KL.keepLast (by kernel_rfl)
        · refine Dk.lookup_all ?_
          simp only [List.forall_mem_cons, List.not_mem_nil, false_imp_iff, implies_true, and_true]
          refine ⟨?_, ?_, ?_, ?_, ?_, ?_⟩
          · exact fun _ _ _ _ _ _ => trivial
          · exact fun _ _ _ _ _ _ => trivial
          · exact fun _ _ _ _ _ _ => trivial
          · exact fun _ _ _ _ _ _ => trivial
          · exact fun _ _ _ _ _ h => Dk.KF.pure h
          · exact fun _ _ _ _ _ h => h
        · exact fun _ _ _ _ h => h
        · exact hnb.out.drew
        refine Dk.Chain.weaken (F := Dk.atK []) (fun _ _ _ _ => trivial) ?_
        repeat (first
          | (refine Dk.Chain.step (v := ?_) (a' := ?_) rfl rfl rfl ?_ ?_ ?_; rotate_left 2; (focus (intro w; go_simp; try with_reducible rfl)); focus (simp only [Act.put, pqA, pqS, pqZ]; try rfl))
          | (refine Dk.Chain.call (i := 5) (a' := ?_) _ rfl rfl rfl rfl (fun D wx hx hD hF => ?_) ?_ ?_; rotate_left 1; (focus (have y := (hx.below.cell (p := ⟨b, o + m * 2, none⟩) hbb).trans G1.out); (go_simp); (first | exact ⟨Dk.RB.of (by decide) (Below.refl _ _), hx⟩ | exact Dk.RB.of (by decide) (Below.refl _ _))); focus (simp only [Act.put, pqA, pqS, pqZ]; try rfl))
          | (refine Dk.Chain.call (i := 6) (a' := ?_) _ rfl rfl rfl rfl (fun D wx hx hD hF => ?_) ?_ ?_; rotate_left 1; (focus (go_simp); ((with_reducible refine (HC1.out _).mono ?_)); (rintro e w' ⟨rfl, rfl⟩); (exact ⟨rfl, Dk.RB.of (by decide) (Below.refl _ _), hx⟩)); focus (simp only [Act.put, pqA, pqS, pqZ]; try rfl))
          | (refine Dk.Chain.call (i := 11) (a' := ?_) _ rfl rfl rfl rfl (fun D wx hx hD hF => ?_) ?_ ?_; rotate_left 1; (focus (have y := (hx.below.cell (p := ⟨b, o + m * 2 + 1, none⟩) hbb).trans G2.out); (go_simp); (first | exact ⟨Dk.RB.of (by decide) (Below.refl _ _), hx⟩ | exact Dk.RB.of (by decide) (Below.refl _ _))); focus (simp only [Act.put, pqA, pqS, pqZ]; try rfl))
          | (refine Dk.Chain.call (i := 12) (a' := ?_) _ rfl rfl rfl rfl (fun D wx hx hD hF => ?_) ?_ ?_; rotate_left 1; (focus (go_simp); ((with_reducible refine (HC2.out _).mono ?_)); (rintro e w' ⟨rfl, rfl⟩); (exact ⟨rfl, Dk.RB.of (by decide) (Below.refl _ _), hx⟩)); focus (simp only [Act.put, pqA, pqS, pqZ]; try rfl))
          | (refine Dk.Chain.make (i := 14) _ _ rfl rfl rfl (fun D wx hx hD hF => ?_) (fun d14 hd14 a' ha => ?_); (focus (go_simp); (exact ⟨Dk.RB.of (by decide) (ba1 _ _), hx.then_below (ba1 _ _), fun _ => Buf.lit wx 128 2 1 [.string (bs (p.1.take 42)), .string (bs (p.2.take 42))] (by simp) (by decide)⟩)); obtain ⟨g4, rfl⟩ := hd14; simp only [Act.put, pqA, pqS, pqZ] at ha; subst ha)
          | (refine Dk.Chain.make (i := 15) _ _ rfl rfl rfl (fun D wx hx hD hF => ?_) (fun d15 hd15 a' ha => ?_); (focus (have f14 := (show Dk.KF 15 (fun v w => Buf w 128 2 v 1 [.string (bs (p.1.take 42)), .string (bs (p.2.take 42))]) _ D wx from Dk.atK_get' (hF 14 (by kernel_rfl)).2 rfl) hD); (refine oper_append_buf (.tmp 16) (.tmp 30) 22 rfl pair_ty rfl hx.buf rfl (f14.src Tryz.underlying22 (by simp [Value.oneCell'])) (by simp only [maxLen]; omega) (by omega) ?_); (intro v' w' hb ha hg); (have hst := hx.step hb ha hg); (exact ⟨v', rfl, Dk.RB.yes (by decide) rfl, ⟨hx.buf.ap_self ha, hst.below, hx.new⟩, hb.shape, hst⟩)); obtain ⟨A5, c5, rfl, hc5⟩ := hd15; simp only [Act.put, pqA, pqS, pqZ] at ha; subst ha)
          | (refine Dk.Chain.skip (a' := ?_) rfl rfl rfl ?_ ?_; rotate_left 1; focus (simp only [Act.put, pqA, pqS, pqZ]; try rfl)))
        refine Dk.Chain.end_facts (fun D wz hX hF => ?_)
        have h9 := (show Dk.KL (fun v w => NBuf WS w 128 2 v (m + 1) (ys ++ [.string (bs (p.1.take 42)), .string (bs (p.2.take 42))])) _ D wz from Dk.atK_get' (hF 15) rfl)
        clear hX hF
        have H9 := Lib.hid h9
        clear h9
        go_wp2_with fail
        go_roundw
        case rel =>
          refine ⟨m + 1, by omega, by omega, by go_num, Lib.hid ?_⟩
          rw [List.take_add_one, HPK.out, List.map_append, pcs_append, HYS.out]
          exact H9.out
        case measure => simp [intOf]; omega
      · obtain rfl : m = 10 := by omega
        have hf : (l.take 10).map cut42 = few l := rfl
        have hfl : (few l).length = 10 := by unfold few; rw [List.length_map, List.length_take]; omega
        have hn2 : NBuf w wr 128 2 (.slice fA 10 fc) (few l).length (pcs (few l)) := by rw [hfl]; exact hnb.out
        have HN2 := Lib.hid hn2
        clear hf hfl hn2 h10
        go_wp2_with fail
        go_ret
        exact ⟨_, rfl, HN2.out⟩
    · have hml : m = l.length := by omega
      have hf : few l = (l.take m).map cut42 := by unfold few; rw [List.take_of_length_le (by omega), List.take_of_length_le (by omega)]
      have hfl : (few l).length = m := by rw [hf, List.length_map, List.length_take]; omega
      have hn2 : NBuf w wr 128 2 (.slice fA m fc) (few l).length (pcs (few l)) := by rw [hfl, hf]; exact hnb.out
      have HN2 := Lib.hid hn2
      have hd : decide ((m : Int) < (l.length : Int)) = false := decide_eq_false (by omega)
      clear hf hfl hn2 hml
      go_wp2_with fail
      go_ret
      exact ⟨_, rfl, HN2.out⟩

end Go.Proofs.YtgabmfibfikdbaaGreatDoor

/-
  Layer 6: the walks of the reference's functions that look at pairs (letter, name, Check, Get, Key, Text, Compare).
-/
namespace Go.Proofs.YtgabmfibfikdbaaGreatDoor
open Go.RowKit Go.Bar Go.Bar.Leb Go.Bar.Lab

set_option maxHeartbeats 1000000 in
theorem rletter_any (c : UInt8) (w : World) : Calls Tryz.prog 117 #[.int .u8 c.toNat] w fun e w' => e = .returned (.bool (letter c)) ∧ w = w' := by
  rw [letter_nat]
  have hrng := byte_rng c
  rcases hrng with h1 | ⟨h1, h2⟩ | ⟨h1, h2⟩ | ⟨h1, h2⟩ | ⟨h1, h2, h3⟩ | h1 | ⟨h1, h2⟩ | h1
  case inr.inr.inr.inr.inr.inl =>
    rw [decide_eq_true (by omega)]
    have hne : ((c.toNat : Int) == 95) = true := by rw [beq_iff_eq]; exact h1
    have h2 : (c.toNat : Int) ≤ 95 := by omega
    have h3 : 95 ≤ (c.toNat : Int) := by omega
    clear h1
    go_enter Tryz.func117, Tryz.ntmps117
    go_wp2_with fail
    go_ret
    exact ⟨rfl, rfl⟩
  case inr.inr.inr.inl =>
    rw [decide_eq_true (by omega)]
    go_enter Tryz.func117, Tryz.ntmps117
    go_wp2_with fail
    go_ret
    exact ⟨rfl, rfl⟩
  case inr.inr.inr.inr.inr.inr.inl =>
    rw [decide_eq_true (by omega)]
    go_enter Tryz.func117, Tryz.ntmps117
    go_wp2_with fail
    go_ret
    exact ⟨rfl, rfl⟩
  all_goals
    rw [decide_eq_false (by omega)]
    have hne : ((c.toNat : Int) == 95) = false := by rw [beq_eq_false_iff_ne]; omega
    try (have hx3 : 65 ≤ (c.toNat : Int) := (by omega))
    try (have hx4 : decide ((c.toNat : Int) ≤ 90) = false := decide_eq_false (by omega))
    try (have hx5 : decide ((c.toNat : Int) ≤ 122) = false := decide_eq_false (by omega))
    go_enter Tryz.func117, Tryz.ntmps117
    go_wp2_with fail
    go_ret
    exact ⟨rfl, rfl⟩

theorem digit_cases {c : UInt8} : digit c = true ∧ 48 ≤ (c.toNat : Int) ∧ (c.toNat : Int) ≤ 57 ∨ digit c = false ∧ (c.toNat : Int) < 48 ∨ digit c = false ∧ 57 < (c.toNat : Int) ∧ 48 ≤ (c.toNat : Int) := by
  rw [digit_nat]
  by_cases h1 : (c.toNat : Int) < 48
  · exact .inr (.inl ⟨decide_eq_false (by omega), h1⟩)
  · by_cases h2 : 57 < (c.toNat : Int)
    · exact .inr (.inr ⟨decide_eq_false (by omega), h2, by omega⟩)
    · exact .inl ⟨decide_eq_true (by omega), by omega, by omega⟩

set_option maxHeartbeats 4000000 in
set_option maxRecDepth 10000 in
theorem rname_any (l : List UInt8) (w : World) (hl : l.length ≤ 1000000000000) :
    Calls Tryz.prog 97 #[.string (bs l)] w fun e w' => e = .returned (.bool (nameB l)) ∧ w = w' := by
  obtain ⟨Z, hZ⟩ : ∃ Z, Z = nameB l := ⟨_, rfl⟩
  rw [← hZ]
  rcases l with _ | ⟨c0, r⟩
  · have hz : Z = false := by rw [hZ]; rfl
    subst hz
    clear hZ
    go_enter Tryz.func97, Tryz.ntmps97
    go_wp2_with fail
    go_ret
    exact ⟨rfl, rfl⟩
  · obtain ⟨l, hlr⟩ : ∃ l, l = c0 :: r := ⟨_, rfl⟩
    have hc0 : l[0]? = some c0 := by rw [hlr]; rfl
    have hne : l.isEmpty = false := by rw [hlr]; rfl
    have hpos : 0 < l.length := by rw [hlr]; simp
    have hne2 : (l == []) = false := by rw [beq_eq_false_iff_ne, hlr]; simp
    rw [← hlr] at hZ hl ⊢
    clear hlr
    have hx0 := index_bs (P := Tryz.prog) Tryz.underlying9 .i64 l 0 0 c0 rfl hc0
    have hlt0 := rletter_any c0
    by_cases h40 : 40 < l.length
    · have hz : Z = false := by rw [hZ]; unfold nameB; rw [decide_eq_false (by omega : ¬ l.length ≤ 40), Bool.and_false]
      subst hz
      clear hZ hx0 hlt0 hc0
      have hd : decide (40 < (l.length : Int)) = true := decide_eq_true (by omega)
      go_enter Tryz.func97, Tryz.ntmps97
      go_wp2_with fail
      go_ret
      exact ⟨rfl, rfl⟩
    · have hd : decide (40 < (l.length : Int)) = false := decide_eq_false (by omega)
      rcases hl0 : letter c0 with _ | _
      · have hz : Z = false := by
          rw [hZ]
          exact nameB_bad hc0 (by show signB true c0 = false; unfold signB; rw [hl0]; rfl)
        subst hz
        rw [hl0] at hlt0
        have HL := Lib.hid hlt0
        have HX0 := Lib.hid hx0
        clear hZ hlt0 hc0 hl0 hx0
        have hx0 := HX0.out
        go_enter Tryz.func97, Tryz.ntmps97
        go_wp2_with fail
        refine (HL.out _).mono ?_
        rintro e w' ⟨rfl, rfl⟩
        go_wp2_with fail
        go_ret
        exact ⟨rfl, rfl⟩
      · rw [hl0] at hlt0
        have HL := Lib.hid hlt0
        have HZ := Lib.hid hZ
        have HC0 := Lib.hid hc0
        have HL0 := Lib.hid hl0
        have HNE := Lib.hid hne
        clear hZ hlt0 hc0 hl0
        go_enter Tryz.func97, Tryz.ntmps97
        go_wp2_with fail
        refine (HL.out _).mono ?_
        rintro e w' ⟨rfl, rfl⟩
        go_wp2_with fail
        clear hx0
        go_loop [3] (fun i => ∃ k : Nat, k ≤ l.length ∧ i = .int .i64 k ∧ Hid (signs l k)) (fun i => l.length - (intOf i).toNat)
        case atStart => exact ⟨0, Nat.zero_le _, rfl, Lib.hid (signs_zero l)⟩
        case round =>
          obtain ⟨k, hk, rfl, hsg⟩ := hrel
          by_cases hgo : k < l.length
          · obtain ⟨c, hc⟩ : ∃ c, l[k]? = some c := ⟨_, List.getElem?_eq_getElem hgo⟩
            have hxk := index_bs (P := Tryz.prog) Tryz.underlying9 .i64 l (k : Int) k c rfl hc
            have hlt := rletter_any c
            have hfirst : k = 0 → letter c = true := fun h => by
              subst h
              have := HC0.out
              rw [hc] at this
              injection this with this
              rw [this]
              exact HL0.out
            have hnb := fun h => nameB_bad (l := l) (k := k) hc h
            have hsc := fun h => signs_succ hsg.out hc h
            have hsgn : signB (k == 0) c = (letter c || (!(k == 0) && digit c)) := rfl
            rcases hlc : letter c with _ | _
            · have hk0 : (k == 0) = false := by rw [beq_eq_false_iff_ne]; intro h; rw [hfirst h] at hlc; cases hlc
              rw [hlc, hk0] at hsgn
              rw [hlc] at hlt
              have HT := Lib.hid hlt
              have HXK := Lib.hid hxk
              rcases digit_cases (c := c) with ⟨hd1, hd2, hd3⟩ | ⟨hd1, hd2⟩ | ⟨hd1, hd2, hd3⟩
              · have HSC := Lib.hid (hsc (by rw [hk0, hsgn, hd1]; rfl))
                clear hlt hxk hfirst hnb hsc hsgn hlc hk0 hd1 hc
                have hxk := HXK.out
                go_wp2_with fail
                refine (HT.out _).mono ?_
                rintro e w' ⟨rfl, rfl⟩
                go_wp2_with fail
                go_round
                case rel => exact ⟨k + 1, by omega, by go_num, HSC⟩
                case measure => simp [intOf]; omega
              all_goals
                have HNB := Lib.hid (hnb (by rw [hk0, hsgn, hd1]; rfl))
                clear hlt hxk hfirst hnb hsc hsgn hlc hk0 hd1 hc
                have hxk := HXK.out
                go_wp2_with fail
                refine (HT.out _).mono ?_
                rintro e w' ⟨rfl, rfl⟩
                go_wp2_with fail
                go_ret
                exact ⟨by rw [HZ.out, HNB.out]; rfl, rfl⟩
            · rw [hlc] at hlt hsgn
              have HT := Lib.hid hlt
              have HXK := Lib.hid hxk
              have HSC := Lib.hid (hsc (by rw [hsgn]; rfl))
              clear hlt hxk hfirst hnb hsc hsgn hlc hc
              have hxk := HXK.out
              go_wp2_with fail
              refine (HT.out _).mono ?_
              rintro e w' ⟨rfl, rfl⟩
              go_wp2_with fail
              go_round
              case rel => exact ⟨k + 1, by omega, by go_num, HSC⟩
              case measure => simp [intOf]; omega
          · obtain rfl : k = l.length := by omega
            have hz := HZ.out
            rw [nameB_signs hsg.out, HNE.out, decide_eq_true (by omega)] at hz
            have HZ2 := Lib.hid hz
            clear hz hgo
            go_wp2_with fail
            go_ret
            exact ⟨by rw [HZ2.out]; rfl, rfl⟩

end Go.Proofs.YtgabmfibfikdbaaGreatDoor

/-
  Layer 6: the walks of Told and of the reference's Check, Get, Text, Key.
-/
namespace Go.Proofs.YtgabmfibfikdbaaGreatDoor
open Go.RowKit Go.Bar Go.Bar.Leb Go.Bar.Lab

theorem rpair_ty : ElemTy Tryz.prog 60 146 (.agg #[.string ByteArray.empty, .string ByteArray.empty]) 2 32 :=
  ⟨Tryz.underlying60, info_parts (show (Tryz.prog.info? 146).map (fun i => (i.zero, i.size, i.bytes)) = some (some (.agg #[.string ByteArray.empty, .string ByteArray.empty]), 2, 32) by kernel_rfl), rfl⟩

def RetRN (w : World) (l : List Pr) (e : Ending) (w' : World) : Prop := ∃ v, e = .returned v ∧ NBuf w w' 146 2 v l.length (pcs l)

set_option maxHeartbeats 4000000 in
set_option maxRecDepth 10000 in
theorem told_any6 (v : Value) (l : List Pr) (w : World) (h : PsAt w v l) (hl : l.length ≤ 1000000) :
    Calls Tryz.prog 54 #[v] w (RetRN w l) := by
  obtain ⟨A, c, rfl, hlc, hcm⟩ := h.shape
  unfold maxLen at hcm
  have HN0 := Lib.hid (NBuf.lit0 (Below.refl w.heap.size w) 146 2)
  go_enter Tryz.func54, Tryz.ntmps54
  go_wp2_with fail
  go_loopw [9, 3] (fun i d wr => ∃ k : Nat, k ≤ l.length ∧ i = .int .i64 k ∧ Hid (NBuf w wr 146 2 d k (pcs (l.take k)))) (fun i _ _ => l.length - (intOf i).toNat)
  case atStart => exact ⟨0, Nat.zero_le _, rfl, HN0⟩
  case round =>
    obtain ⟨k, hk, rfl, hnb⟩ := hrel
    obtain ⟨fA, fc, rfl, hfc⟩ := hnb.out.buf.shape
    by_cases hgo : k < l.length
    · obtain ⟨p, hpk⟩ : ∃ p, l[k]? = some p := ⟨_, List.getElem?_eq_getElem hgo⟩
      obtain ⟨b, o, rfl, hbb, g1, g2⟩ := (h.below hnb.out.below).at_ hpk
      have HN1 := Lib.hid (hnb.out.alloc (.cells #[.string (bs p.1), .string (bs p.2)] 128))
      have HPK := Lib.hid hpk
      clear hpk
      go_wp2_with (at_builtin; refine wpList_append_nlit rfl (.tmp 13) (.tmp 15) 60 rfl rpair_ty rfl HN1.out rfl (by simp) rfl (by simp [Value.oneCell']) (by simp only [maxLen]; omega) (by omega) ?_; intro v3 w3 hn3 _; have HN3 := Lib.hid hn3; clear hn3)
      go_roundw
      case rel =>
        refine ⟨k + 1, by omega, by go_num, Lib.hid ?_⟩
        rw [List.take_add_one, HPK.out, pcs_append]
        exact HN3.out
      case measure => simp [intOf]; omega
    · obtain rfl : k = l.length := by omega
      have hn := hnb.out
      rw [List.take_length] at hn
      have HN := Lib.hid hn
      clear hn hgo
      go_wp2_with fail
      go_ret
      exact ⟨_, rfl, HN.out⟩

end Go.Proofs.YtgabmfibfikdbaaGreatDoor

/-
  Layer 6: the walks of the reference's Check, Key and Compare.
-/
namespace Go.Proofs.YtgabmfibfikdbaaGreatDoor
open Go.RowKit Go.Bar Go.Bar.Leb Go.Bar.Lab

def goodR (l : List Pr) (i : Nat) : Prop := okP (l.getD i ([], [])) = true ∧ ∀ k, k < i → (l.getD k ([], [])).1 < (l.getD i ([], [])).1
theorem ok_iffR (l : List Pr) : Ok l ↔ 0 < l.length ∧ l.length ≤ 8 ∧ ∀ i, i < l.length → goodR l i := by
  rw [ok_iff]
  constructor
  · rintro ⟨h1, h2, h3⟩
    refine ⟨h1, h2, fun i hi => ⟨(h3 i hi).1, fun k hk => ?_⟩⟩
    have := chain_lt h3 (i - k - 1) k (by omega)
    rwa [show k + (i - k - 1) + 1 = i by omega] at this
  · rintro ⟨h1, h2, h3⟩
    exact ⟨h1, h2, fun i hi => ⟨(h3 i hi).1, fun h0 => (h3 i hi).2 (i - 1) (by omega)⟩⟩

set_option maxHeartbeats 8000000 in
set_option maxRecDepth 10000 in
theorem rcheck_any6 (v : Value) (l : List Pr) (w : World) (h : PsAt w v l) (hp : ∀ p ∈ l, p.1.length ≤ 1000000000000) :
    Calls Tryz.prog 64 #[v] w (RetBelow w (.bool (chk l))) := by
  obtain ⟨A, c, rfl, hlc, hcm⟩ := h.shape
  unfold maxLen at hcm
  obtain ⟨Z, hZ⟩ : ∃ Z, Z = chk l := ⟨_, rfl⟩
  rw [← hZ]
  have HB := Lib.hid (fun k (hk : k < l.length) (h : ¬ goodR l k) => hZ.trans (chk_false (fun h' => h (((ok_iffR l).1 h').2.2 k hk))))
  have HN := Lib.hid (fun (h : ¬ Ok l) => hZ.trans (chk_false h))
  have HY := Lib.hid (fun (h : Ok l) => hZ.trans (chk_true h))
  clear hZ
  by_cases h0 : l.length = 0
  · have hz := HN.out (fun h => by have := h.1; omega)
    have hb : ((l.length : Int) == 0) = true := by rw [beq_iff_eq]; omega
    subst hz
    clear h0 HB HN HY
    go_enter Tryz.func64, Tryz.ntmps64
    go_wp2_with fail
    go_ret
    exact ⟨rfl, Below.refl _ _⟩
  · have hb : ((l.length : Int) == 0) = false := by rw [beq_eq_false_iff_ne]; omega
    have h0 : 0 < l.length := by omega
    by_cases h8 : 8 < l.length
    · have hz := HN.out (fun h => by have := h.2.1; omega)
      subst hz
      clear HB HN HY
      go_enter Tryz.func64, Tryz.ntmps64
      go_wp2_with fail
      go_ret
      exact ⟨rfl, Below.refl _ _⟩
    · have h8 : decide (8 < (l.length : Int)) = false := decide_eq_false (by omega)
      go_enter Tryz.func64, Tryz.ntmps64
      go_wp2_with fail
      go_loopw [16] (fun i wr => ∃ k : Nat, k ≤ l.length ∧ i = .int .i64 k ∧ Below w.heap.size w wr ∧ Hid (∀ j, j < k → goodR l j)) (fun i _ => l.length - (intOf i).toNat)
      case atStart => exact ⟨0, Nat.zero_le _, rfl, Below.refl _ _, Lib.hid (fun j hj => absurd hj (Nat.not_lt_zero j))⟩
      case round =>
        obtain ⟨m, hm, rfl, hbl, hgd⟩ := hrel
        by_cases hgo : m < l.length
        · obtain ⟨p, hpk⟩ : ∃ p, l[m]? = some p := ⟨_, List.getElem?_eq_getElem hgo⟩
          obtain ⟨b, o, rfl, hbb, g1, g2⟩ := (h.below hbl).at_ hpk
          have hpl := hp p (List.mem_of_getElem? hpk)
          have hpd : l.getD m ([], []) = p := by rw [List.getD_eq_getElem?_getD, hpk]; rfl
          have HPD := Lib.hid hpd
          have hck := Blk.new wr #[.string (bs p.1), .string (bs p.2)] 146
          have hgn := fun w => rname_any p.1 w hpl
          have hbl2 := below_trans hbl (below_alloc1 wr (.cells #[.string (bs p.1), .string (bs p.2)] 146))
          clear hpk hpd
          rcases hn : nameB p.1 with _ | _
          · have HZ := Lib.hid (HB.out m hgo (fun h => by have := (okP_iff p).1 (by have := h.1; rwa [HPD.out] at this); rw [hn] at this; exact absurd this.1 (by simp)))
            rw [hn] at hgn
            have HGN := Lib.hid hgn
            clear hgn hn
            go_wp2_with fail
            refine (HGN.out _).mono ?_
            rintro e w2 ⟨rfl, rfl⟩
            go_wp2_with fail
            go_ret
            exact ⟨by rw [HZ.out]; rfl, hbl2⟩
          · rw [hn] at hgn
            have HGN := Lib.hid hgn
            by_cases he : p.2 = []
            · have HZ := Lib.hid (HB.out m hgo (fun h => ((okP_iff p).1 (by have := h.1; rwa [HPD.out] at this)).2.1 he))
              have hb1 : (p.2 == []) = true := by rw [beq_iff_eq]; exact he
              have hb2 : p.2.isEmpty = true := by rw [he]; rfl
              clear hgn hn he
              go_wp2_with fail
              refine (HGN.out _).mono ?_
              rintro e w2 ⟨rfl, rfl⟩
              go_wp2_with fail
              go_ret
              exact ⟨by rw [HZ.out]; rfl, hbl2⟩
            · have hb1 : (p.2 == []) = false := by rw [beq_eq_false_iff_ne]; exact he
              have hb2 : p.2.isEmpty = false := by rw [List.isEmpty_eq_false_iff]; exact he
              by_cases hl4 : p.2.length ≤ 40
              · have hd4 : decide (40 < (p.2.length : Int)) = false := decide_eq_false (by omega)
                have HOK := Lib.hid ((okP_iff p).2 ⟨hn, he, hl4⟩)
                obtain ⟨wo, hwo⟩ : ∃ wo, wo = wr.alloc (.cells #[.string (bs p.1), .string (bs p.2)] 146) := ⟨_, rfl⟩
                obtain ⟨MX, hMX⟩ : ∃ MX, MX = wr.heap.size := ⟨_, rfl⟩
                clear hgn hn he hl4
                go_wp2_with fail
                refine (HGN.out _).mono ?_
                rintro e w2 ⟨rfl, rfl⟩
                go_wp2_with fail
                have HBL2 := Lib.hid (show Below w.heap.size w wo by rw [hwo]; exact hbl2)
                have HCK := Lib.hid (show Blk wo MX 146 #[.string (bs p.1), .string (bs p.2)] by rw [hwo, hMX]; exact hck)
                rw [← hwo, ← hMX]
                clear hwo g1 g2 hbl hbl2 hck
                clear hMX
                go_loopw [5] (fun i wr => ∃ k : Nat, k ≤ m ∧ i = .int .i64 k ∧ Hid (∃ q, wr = wo.drewN q) ∧ Hid (∀ j, j < k → (l.getD j ([], [])).1 < p.1)) (fun i _ => m - (intOf i).toNat)
                case atStart => exact ⟨0, Nat.zero_le _, rfl, Lib.hid ⟨0, rfl⟩, Lib.hid (fun j hj => absurd hj (Nat.not_lt_zero j))⟩
                case round =>
                  obtain ⟨k, hk, rfl, hq, hlt⟩ := hrel
                  obtain ⟨q2, rfl⟩ := hq.out
                  by_cases hgk : k < m
                  · obtain ⟨x, hxk⟩ : ∃ x, l[k]? = some x := ⟨_, List.getElem?_eq_getElem (by omega)⟩
                    obtain ⟨b', o', hA, _, y0, _⟩ := (h.below HBL2.out).at_ hxk
                    injection hA with hA
                    injection hA with e1 e2 _
                    subst e1; subst e2
                    have x0 := HCK.out.cell (i := 0) rfl
                    have hxd : (l.getD k ([], [])).1 = x.1 := by rw [List.getD_eq_getElem?_getD, hxk]; rfl
                    have hkl : (k : Int) < (l.length : Int) := by omega
                    by_cases hlx : x.1 < p.1
                    · have hls : Op.bytesLess x.1 p.1 = true := by rw [less_eq]; exact decide_eq_true hlx
                      have HLT := Lib.hid (show ∀ j, j < k + 1 → (l.getD j ([], [])).1 < p.1 from fun j hj => by
                        by_cases hjk : j < k
                        · exact hlt.out j hjk
                        · obtain rfl : j = k := by omega
                          rw [hxd]; exact hlx)
                      clear hxk hxd hlx hlt hq
                      go_wp2_with fail
                      go_quiet (fail)
                      go_wp2_with fail
                      go_roundw
                      case rel => exact ⟨k + 1, by omega, by go_num, Lib.hid ⟨_, rfl⟩, HLT⟩
                      case measure => simp [intOf]; omega
                    · have hls : Op.bytesLess x.1 p.1 = false := by rw [less_eq]; exact decide_eq_false hlx
                      have HZ := Lib.hid (HB.out m hgo (fun h => hlx (by have := h.2 k hgk; rwa [hxd, HPD.out] at this)))
                      clear hxk hxd hlx hlt hq
                      go_wp2_with fail
                      go_quiet (fail)
                      go_wp2_with fail
                      go_ret
                      exact ⟨by rw [HZ.out]; rfl, below_drewN (below_drewN HBL2.out _) _⟩
                  · obtain rfl : k = m := by omega
                    have HGD := Lib.hid (show ∀ j, j < k + 1 → goodR l j from fun j hj => by
                      by_cases hjk : j < k
                      · exact hgd.out j hjk
                      · obtain rfl : j = k := by omega
                        exact ⟨by rw [HPD.out]; exact HOK.out, fun i hi => by rw [HPD.out]; exact hlt.out i hi⟩)
                    clear hgk hk hq hlt hgd
                    go_wp2_with fail
                    go_roundw
                    case rel => exact ⟨k + 1, by omega, by go_num, below_drewN HBL2.out _, HGD⟩
                    case measure => simp [intOf]; omega
              · have hd4 : decide (40 < (p.2.length : Int)) = true := decide_eq_true (by omega)
                have HZ := Lib.hid (HB.out m hgo (fun h => hl4 ((okP_iff p).1 (by have := h.1; rwa [HPD.out] at this)).2.2))
                clear hgn hn he hl4
                go_wp2_with fail
                refine (HGN.out _).mono ?_
                rintro e w2 ⟨rfl, rfl⟩
                go_wp2_with fail
                go_ret
                exact ⟨by rw [HZ.out]; rfl, hbl2⟩
        · obtain rfl : m = l.length := by omega
          have HZ := Lib.hid (HY.out ((ok_iffR l).2 ⟨h0, by have := of_decide_eq_false h8; omega, hgd.out⟩))
          go_wp2_with fail
          go_ret
          exact ⟨by rw [HZ.out]; rfl, hbl⟩

set_option maxHeartbeats 8000000 in
set_option maxRecDepth 10000 in
theorem rkey_any (v : Value) (l : List Pr) (w : World) (h : PsAt w v l) (hl : l.length ≤ 1000) (hp : ∀ p ∈ l, p.1.length ≤ 1000000 ∧ p.2.length ≤ 1000000) :
    Calls Tryz.prog 52 #[v] w (RetBelow w (.string (bs (key l)))) := by
  obtain ⟨A, c, rfl, hlc, hcm⟩ := h.shape
  unfold maxLen at hcm
  have hu := u_len l.length (by omega)
  have HCV := Lib.hid (show IntKind.u64.wrap (l.length : Int) = (l.length : Int) by rw [IntKind.wrap_u64]; omega)
  go_enter Tryz.func52, Tryz.ntmps52
  go_wp2_with fail
  refine (refUint_any l.length _ (by omega)).mono ?_
  rintro e w1 ⟨rfl, hb1⟩
  go_wp2_with fail
  go_loopw [12, 3] (fun i s wr => ∃ (k : Nat) (ys : List UInt8), k ≤ l.length ∧ i = .int .i64 k ∧ s = .string (bs ys) ∧ Below w.heap.size w wr ∧ ys.length ≤ 10 + k * 2000020 ∧ Hid (ys = u l.length ++ (l.take k).flatMap fun p => tx p.1 ++ tx p.2)) (fun i _ _ => l.length - (intOf i).toNat)
  case atStart => exact ⟨0, _, Nat.zero_le _, rfl, rfl, hb1, by omega, Lib.hid (by simp)⟩
  case round =>
    clear hb1
    obtain ⟨k, ys, hk, rfl, rfl, hB, hyl, hy⟩ := hrel
    by_cases hgo : k < l.length
    · obtain ⟨p, hpk⟩ : ∃ p, l[k]? = some p := ⟨_, List.getElem?_eq_getElem hgo⟩
      obtain ⟨b, o, rfl, hbb, g1, g2⟩ := (h.below hB).at_ hpk
      obtain ⟨hp1, hp2⟩ := hp p (List.mem_of_getElem? hpk)
      have HPK := Lib.hid hpk
      have hck := Blk.new wr #[.string (bs p.1), .string (bs p.2)] 146
      have hB2 := below_trans hB (below_alloc1 wr (.cells #[.string (bs p.1), .string (bs p.2)] 146))
      have u1 := u_len p.1.length (by omega)
      have u2 := u_len p.2.length (by omega)
      obtain ⟨y1, hy1⟩ : ∃ y, y = tx p.1 := ⟨_, rfl⟩
      obtain ⟨y2, hy2⟩ : ∃ y, y = tx p.2 := ⟨_, rfl⟩
      have l1 : y1.length ≤ 1000010 := by rw [hy1]; unfold tx; rw [List.length_append]; omega
      have l2 : y2.length ≤ 1000010 := by rw [hy2]; unfold tx; rw [List.length_append]; omega
      have T1 := Lib.hid (fun w => (show Calls Tryz.prog 92 #[.string (bs p.1)] w (RetBelow w (.string (bs y1))) by rw [hy1]; exact refText_any (bs p.1) w (by rw [bs_size]; omega)))
      have T2 := Lib.hid (fun w => (show Calls Tryz.prog 92 #[.string (bs p.2)] w (RetBelow w (.string (bs y2))) by rw [hy2]; exact refText_any (bs p.2) w (by rw [bs_size]; omega)))
      have HY := Lib.hid (show u l.length ++ (l.take (k + 1)).flatMap (fun p => tx p.1 ++ tx p.2) = ys ++ (y1 ++ y2) by rw [hy.out, hy1, hy2, List.take_add_one, hpk]; simp)
      have hyk : ys.length ≤ 2100000000 := by
        have : k * 2000020 ≤ 1000 * 2000020 := Nat.mul_le_mul_right _ (by omega)
        omega
      have n1 : ¬ 9223372036854775807 < y1.length + y2.length := by omega
      have n2 : ¬ 9223372036854775807 < ys.length + (y1.length + y2.length) := by omega
      clear hpk hy1 hy2 u1 u2 hy hyk
      go_wp2_with fail
      go_upto_region 5 with fail
      refine wp_region_known [(2, .string (bs p.1)), (3, .string (bs y1)), (5, .string (bs p.2)), (6, .string (bs y2))] (by kernel_rfl) 27 (by kernel_rfl) rfl ?_
      repeat (first
        | (refine Chain.step (v := ?_) (a' := ?_) rfl rfl rfl ?_ ?_ ?_; rotate_left 2; (focus (intro w; go_simp; try with_reducible rfl)); focus (simp only [Act.put, pqA, pqS, pqZ]; try rfl))
        | (refine Chain.call (a' := ?_) _ rfl rfl rfl (fun wx hw => ?_) ?_ ?_
           rotate_left 1
           focus
             first
             | (have z0 := (hck.below hw).cell (i := 0) rfl; have z1 := (hck.below hw).cell (i := 1) rfl; go_simp; first | exact ⟨rfl, Below.refl _ _⟩ | exact Below.refl _ _)
             | (go_simp; ((with_reducible refine (T1.out _).mono ?_); rintro e w2 ⟨rfl, h2⟩; exact ⟨rfl, h2⟩))
             | (go_simp; ((with_reducible refine (T2.out _).mono ?_); rintro e w2 ⟨rfl, h2⟩; exact ⟨rfl, h2⟩))
           focus (simp only [Act.put, pqA, pqS, pqZ]; try rfl))
        | (refine Chain.skip (a' := ?_) rfl rfl rfl ?_ ?_; rotate_left 1; focus (simp only [Act.put, pqA, pqS, pqZ]; try rfl)))
      refine Chain.end_ (fun wz hwz _ => ?_)
      have hB3 := below_trans hB2 hwz
      clear hwz n1 n2
      go_wp2_with fail
      go_roundw
      case rel => exact ⟨k + 1, ys ++ (y1 ++ y2), by omega, by go_num, rfl, hB3, by simp; omega, Lib.hid HY.out.symm⟩
      case measure => simp [intOf]; omega
    · obtain rfl : k = l.length := by omega
      have hz : ys = key l := by rw [hy.out, List.take_length]; rfl
      have HZ := Lib.hid hz
      clear hz hy
      go_wp2_with fail
      go_ret
      exact ⟨by rw [HZ.out]; rfl, hB⟩

end Go.Proofs.YtgabmfibfikdbaaGreatDoor
