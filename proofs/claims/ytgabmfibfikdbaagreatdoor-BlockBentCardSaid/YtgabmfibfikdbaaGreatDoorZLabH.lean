/-
  Layer 6: the walk of label's Parse: a range over strings.SplitSeq.
-/
import Derived.Test.YtgabmfibfikdbaaGreatDoorZLib15
import Derived.Test.YtgabmfibfikdbaaGreatDoorZLib8
import Derived.Test.YtgabmfibfikdbaaGreatDoorZLabB
import Derived.Test.YtgabmfibfikdbaaGreatDoorZLabE
import Derived.Test.YtgabmfibfikdbaaGreatDoorZLib1
import Derived.Lib.Strings
import Derived.Test.YtgabmfibfikdbaaGreatDoorZBokN

namespace Go.Proofs.YtgabmfibfikdbaaGreatDoor
open Go.RowKit Go.Bar Go.Bar.Leb Go.Bar.Lab
attribute [local go_sem] Oper.semAt_some

theorem pairsOf_snoc : ∀ (l : List (List UInt8)) (x : List UInt8) (ps : List Pr) (p : Pr), pairsOf l = some ps → cutEq x = some p → pairsOf (l ++ [x]) = some (ps ++ [p])
  | [], x, ps, p, h, hx => by
    simp [pairsOf] at h
    subst h
    simp [pairsOf, hx]
  | y :: l, x, ps, p, h, hx => by
    unfold pairsOf at h
    rw [List.cons_append, pairsOf]
    rcases hy : cutEq y with _ | q
    · rw [hy] at h; simp at h
    · rw [hy] at h
      simp only at h ⊢
      rcases hl : pairsOf l with _ | qs
      · rw [hl] at h; simp at h
      · rw [hl] at h
        simp at h
        subst h
        rw [pairsOf_snoc l x qs p hl hx]
        rfl
theorem pairsOf_mem : ∀ (l : List (List UInt8)) (x : List UInt8), x ∈ l → cutEq x = none → pairsOf l = none
  | [], _, h, _ => by cases h
  | y :: l, x, h, hx => by
    unfold pairsOf
    rcases List.mem_cons.1 h with rfl | h
    · rw [hx]
    · split
      · rfl
      · rw [pairsOf_mem l x h hx]; rfl
theorem cutEq_len : ∀ (x : List UInt8) (p : Pr), cutEq x = some p → p.1.length ≤ x.length ∧ p.2.length ≤ x.length
  | [], _, h => by simp [cutEq] at h
  | c :: x, p, h => by
    unfold cutEq at h
    split at h
    · injection h with h; subst h; simp
    · rcases hx : cutEq x with _ | q
      · rw [hx] at h; simp at h
      · rw [hx] at h
        simp at h
        subst h
        have := cutEq_len x q hx
        simp
        omega
theorem pairsOf_length : ∀ (l : List (List UInt8)) (ps : List Pr), pairsOf l = some ps → ps.length = l.length
  | [], ps, h => by simp [pairsOf] at h; subst h; rfl
  | y :: l, ps, h => by
    unfold pairsOf at h
    rcases hy : cutEq y with _ | q
    · rw [hy] at h; simp at h
    · rw [hy] at h
      rcases hl : pairsOf l with _ | qs
      · rw [hl] at h; simp at h
      · rw [hl] at h
        simp at h
        subst h
        simp [pairsOf_length l qs hl]
theorem commas_length : ∀ s, (commas s).length ≤ s.length + 1
  | [] => by simp [commas]
  | c :: r => by
    have := commas_length r
    unfold commas
    split
    · simp; omega
    · split
      · simp
      · rename_i h t he
        rw [he] at this
        simp at this ⊢
        omega

theorem _root_.Go.KeepsOthers.drewN (W : World) (n : Nat) : KeepsOthers W (W.drewN n) := ⟨Nat.le_refl _, fun _ _ h _ => h⟩

theorem _root_.Go.Bar.Blk.new_at {w : World} {cur : Array Value} {T : TypeId} {k : Nat} (h : w.heap.size = k) : Blk (w.alloc (.cells cur T)) k T cur := h ▸ Blk.new w cur T

/-- parts of a text -/
abbrev Part (s : List UInt8) := { x : List UInt8 // x.length ≤ s.length }
/-- the iterator's boxes, whatever they hold -/
structure SpA (w : World) (B : Nat) : Prop where
  b0 : ∃ cur, Blk w B 9 cur
  b1 : ∃ cur, Blk w (B + 1) 9 cur
  b2 : ∃ cur, Blk w (B + 2) 3 cur
theorem SpA.turned {w w' : World} {B : Nat} {row : Option Nat} (h : SpA w B) (hg : w.grownBy w' row) (hr : ∀ r, row = some r → ∃ o : Obj, w.heap[r]? = some o ∧ o.isCells = false) : SpA w' B := by
  obtain ⟨⟨a, ha⟩, ⟨b, hb⟩, c, hc⟩ := h
  exact ⟨⟨a, ha.turned hg hr⟩, ⟨b, hb.turned hg hr⟩, c, hc.turned hg hr⟩
theorem SpA.set {w : World} {B : Nat} (h : SpA w B) (u : Value) : SpA (w.setCell ⟨B, 0, none⟩ u) B := by
  obtain ⟨⟨a, ha⟩, ⟨b, hb⟩, c, hc⟩ := h
  exact ⟨⟨_, ha.set 0 u⟩, ⟨b, hb.other (by omega) 0 u⟩, c, hc.other (by omega) 0 u⟩
theorem SpA.other {w : World} {B M : Nat} (h : SpA w B) (hM : M < B) (u : Value) : SpA (w.setCell ⟨M, 0, none⟩ u) B := by
  obtain ⟨⟨a, ha⟩, ⟨b, hb⟩, c, hc⟩ := h
  exact ⟨⟨_, ha.other (by omega) 0 u⟩, ⟨b, hb.other (by omega) 0 u⟩, c, hc.other (by omega) 0 u⟩
theorem SpA.ap {w w' : World} {B : Nat} (h : SpA w B) {sz n : Nat} {v : Value} {xs : List Value} (hb : Buf w 128 sz v n xs) (ha : Ap w w' sz v) : SpA w' B ∧ ∀ k, B ≤ k → k < B + 3 → w'.heap[k]? = w.heap[k]? := by
  obtain ⟨⟨a, h0⟩, ⟨b, h1⟩, c, h2⟩ := h
  have g0 := h0.ap hb ha (by decide)
  have g1 := h1.ap hb ha (by decide)
  have g2 := h2.ap hb ha (by decide)
  refine ⟨⟨⟨_, g0⟩, ⟨_, g1⟩, _, g2⟩, fun k k1 k2 => ?_⟩
  have : k = B ∨ k = B + 1 ∨ k = B + 2 := by omega
  rcases this with rfl | rfl | rfl
  · exact Eq.trans g0 (Eq.symm h0)
  · exact Eq.trans g1 (Eq.symm h1)
  · exact Eq.trans g2 (Eq.symm h2)
theorem SpA.below {w w' : World} {B : Nat} (h : SpA w B) (hb : Below w.heap.size w w') : SpA w' B := by
  obtain ⟨⟨a, ha⟩, ⟨b, hb1⟩, c, hc⟩ := h
  exact ⟨⟨_, ha.below hb⟩, ⟨b, hb1.below hb⟩, c, hc.below hb⟩

theorem _root_.Go.Bar.Blk.put {w : World} {M D : Nat} {T : TypeId} {cur : Array Value} (h : Blk w M T cur) (hD : w.heap[D]? = some (.deferred (some []))) : Blk (w.putObj D (.deferred none)) M T cur :=
  h.turned (grownBy_putObj' w D _) (fun r e => by cases e; exact ⟨_, hD, rfl⟩)
theorem _root_.Go.Bar.NBuf.put {w0 w : World} {D : Nat} {e : TypeId} {sz n : Nat} {v : Value} {xs : List Value} (h : NBuf w0 w e sz v n xs) (hD : w.heap[D]? = some (.deferred (some []))) (hle : w0.heap.size ≤ D) : NBuf w0 (w.putObj D (.deferred none)) e sz v n xs :=
  ⟨h.buf.turned (grownBy_putObj' w D _) (fun r e => by cases e; exact ⟨_, hD, rfl⟩), h.below.grown (grownBy_putObj' w D _) h.below.size (fun k e => by cases e; exact hle), h.new⟩

/-- how the world stands in the loop -/
structure PI (w W : World) (s : List UInt8) (pre : List (Part s)) (v : Value) (ps : List Pr) : Prop where
  eq : pairsOf (pre.map (·.1)) = some ps
  r0 : Blk W w.heap.size 43 #[.slice none 0 0]
  r1 : Blk W (w.heap.size + 1) 26 #[.int .i64 0]
  l : Blk W (w.heap.size + 1 + 1) 22 #[v]
  b : SpA W (w.heap.size + 1 + 1 + 1)
  buf : NBuf w W 128 2 v ps.length (pcs ps)
  sm : ∀ p ∈ ps, p.1.length ≤ s.length ∧ p.2.length ≤ s.length
/-- how it stands when the loop was left -/
structure PX (w W : World) (s : List UInt8) (pre : List (Part s)) : Prop where
  no : ∃ x ∈ pre.map (·.1), cutEq x = none
  r0 : Blk W w.heap.size 43 #[.slice none 0 0]
  r1 : Blk W (w.heap.size + 1) 26 #[.int .i64 3]
  bl : Below w.heap.size w W

/-- what Parse leaves -/
def RetPs (w : World) (s : List UInt8) (e : Ending) (w' : World) : Prop := ∃ v, e = .returned (.tuple #[v, .int .i64 ((parse s).2 : Nat)]) ∧ NBuf w w' 128 2 v (parse s).1.length (pcs (parse s).1)

set_option maxHeartbeats 8000000 in
set_option maxRecDepth 10000 in
theorem parse_any6 (s : List UInt8) (w : World) (hs : s.length ≤ 100000) :
    Calls Tryz.prog 94 #[.string (bs s)] w (RetPs w s) := by
  have hcl := commas_length s
  refine (callsIn_wide (n := 9)).1 ?_
  refine callsIn_of_wp_marks Tryz.func94 rfl trivial ?_ rfl
  simp only [Tryz.ntmps94, List.size_toArray, List.length_cons, List.length_nil, Nat.reduceAdd, Nat.reduceSub, Array.replicate_succ, Array.replicate_zero, List.push_toArray, List.append_toArray, List.nil_append, List.cons_append]
  gi_wp2_with (refine ⟨trivial, ?_⟩; gi_at_call 113; refine (callsIn_wide.2 (splitSeq_any s _)).mono ?_; rintro e w' ⟨rfl, rfl⟩)
  refine wpIn_rangeFunc_ownB (w0 := ((w.alloc (.cells #[.slice none 0 0] 43)).alloc (.cells #[.int .i64 0] 26)).alloc (.cells #[.slice none 0 0] 22) |>.alloc (.cells #[.string (bs s)] 9) |>.alloc (.cells #[.string { data := #[44] }] 9) |>.alloc (.cells #[.int .i64 0] 3)) rfl (by omega) (gf := 147) (lb := #[.pointer (some ⟨w.heap.size + 1 + 1 + 1 + 1, 0, none⟩), .pointer (some ⟨w.heap.size + 1 + 1 + 1, 0, none⟩), .pointer (some ⟨w.heap.size + 1 + 1 + 1 + 2, 0, none⟩)]) rfl trivial (enters_of Tryz.func147 (by kernel_rfl) rfl)
    (lo := w.heap.size + 1 + 1 + 1) (up := w.heap.size + 1 + 1 + 1 + 3) (by omega) (split_seq s (by omega) _ (by omega) (w.heap.size + 1 + 1 + 1) _ ?boxes) (by simp) (Below.refl _ _) (fun _ => rfl)
    (fun pre W => ∃ v ps, PI w W s pre v ps) (fun c pre W => c = .ret ∧ PX w W s pre) ?own ?ownx ?store ?start
    (fun x => { tmps := #[.string (bs s), undef, .pointer (some ⟨w.heap.size, 0, none⟩), .pointer (some ⟨w.heap.size + 1, 0, none⟩), .pointer (some ⟨w.heap.size + 1 + 1, 0, none⟩), .string (bs x.1), undef, undef, undef, undef, undef, .string (bs s), .func (.func 147) #[] #[.pointer (some ⟨w.heap.size + 1 + 1 + 1 + 1, 0, none⟩), .pointer (some ⟨w.heap.size + 1 + 1 + 1, 0, none⟩), .pointer (some ⟨w.heap.size + 1 + 1 + 1 + 2, 0, none⟩)], .string (bs x.1), undef, undef, undef, undef, undef, undef, undef, undef, undef, undef, undef, undef, undef, undef, undef, undef, undef, undef, undef, undef, undef, undef, undef], defers := [] }) ?assign ?body ?done ?stop
  case boxes => exact ⟨((Blk.new_at (by simp)).alloc _).alloc _, (Blk.new_at (by simp)).alloc _, Blk.new_at (by simp)⟩
  case own =>
    rintro pre W W' row ⟨v, ps, h⟩ hg hr
    have hr2 : ∀ r, row = some r → ∃ o : Obj, W.heap[r]? = some o ∧ o.isCells = false := fun r e => (hr r e).2
    exact ⟨v, ps, h.eq, h.r0.turned hg hr2, h.r1.turned hg hr2, h.l.turned hg hr2, h.b.turned hg hr2, ⟨h.buf.buf.turned hg hr2, h.buf.below.grown hg h.buf.below.size (fun k e => by have := (hr k e).1; simp at this; omega), h.buf.new⟩, h.sm⟩
  case ownx =>
    rintro c pre W W' row ⟨hc, h⟩ hg hr
    have hr2 : ∀ r, row = some r → ∃ o : Obj, W.heap[r]? = some o ∧ o.isCells = false := fun r e => (hr r e).2
    exact ⟨hc, h.no, h.r0.turned hg hr2, h.r1.turned hg hr2, h.bl.grown hg h.bl.size (fun k e => by have := (hr k e).1; simp at this; omega)⟩
  case store =>
    rintro pre W u ⟨v, ps, h⟩
    obtain ⟨cur, hb⟩ := h.b.b0
    exact ⟨v, ps, h.eq, h.r0.other (by omega) 0 u, h.r1.other (by omega) 0 u, h.l.other (by omega) 0 u, h.b.set u, h.buf.set_ne hb (by decide) (by omega) 0 u, h.sm⟩
  case start =>
    exact ⟨.slice none 0 0, [], rfl, (((((Blk.new_at (by simp)).alloc _).alloc _).alloc _).alloc _).alloc _, ((((Blk.new_at (by simp)).alloc _).alloc _).alloc _).alloc _, (((Blk.new_at (by simp)).alloc _).alloc _).alloc _, ⟨⟨_, ((Blk.new_at (cur := #[.string (bs s)]) (by simp)).alloc _).alloc _⟩, ⟨_, (Blk.new_at (cur := #[.string { data := #[44] }]) (by simp)).alloc _⟩, _, Blk.new_at (cur := #[.int .i64 0]) (by simp)⟩, NBuf.nil ((((((below_alloc1 w _).alloc (by simp) _).alloc (by simp; omega) _).alloc (by simp; omega) _).alloc (by simp; omega) _).alloc (by simp; omega) _) _ _, by simp⟩
  case assign =>
    intro l x W K hK
    gi_wp2
    exact hK
  case body =>
    rintro l pre x W ⟨v, ps, hI⟩ hlt
    have r0 := hI.r0.cell (i := 0) rfl
    have q0 := hI.r0.free 0
    have r1 := hI.r1.cell (i := 0) rfl
    have q1 := hI.r1.free 0
    have r2 := hI.l.cell (i := 0) rfl
    have q2 := hI.l.free 0
    have hcut := fun W => cut1_any x.1 W (Nat.le_trans x.2 (by omega))
    rcases hc : cutEq x.1 with _ | p
    · rw [hc] at hcut
      have HC := Lib.hid hcut
      clear hcut
      gi_wp2_with (refine ⟨trivial, ?_⟩; gi_at_call 114; refine (CallsIn.inRound l (callsIn_wide.2 (HC.out _))).mono ?_; rintro e w' ⟨rfl, q, rfl⟩)
      refine ⟨((KeepsOthers.drewN _ _).trans (KeepsOthers.setCell _ _ _)).trans (KeepsOthers.setCell _ _ _), rfl, ⟨x.1, by simp, hc⟩, ((hI.r0.drewN q).set 0 _).other (by omega) 0 _, ((hI.r1.drewN q).other (by omega) 0 _).set 0 _, ?_⟩
      exact ((hI.buf.below.drewN' q).setCell (p := ⟨w.heap.size, 0, none⟩) (Nat.le_refl _) _).setCell (p := ⟨w.heap.size + 1, 0, none⟩) (Nat.le_succ _) _
    · rw [hc] at hcut
      have HC := Lib.hid hcut
      have hpl := pairsOf_length _ _ hI.eq
      rw [List.length_map] at hpl
      have hcp := cutEq_len _ _ hc
      have hx2 := x.2
      obtain ⟨bA, bc, rfl, hbc⟩ := hI.buf.buf.shape
      have HN := Lib.hid hI.buf
      have HI := Lib.hid hI
      have HPL := Lib.hid hpl
      have hps : ps.length ≤ 100001 := by omega
      clear hcut hI hpl
      gi_wp2_with (first
        | (refine ⟨trivial, ?_⟩; gi_at_call 114; refine (CallsIn.inRound l (callsIn_wide.2 (HC.out _))).mono ?_; rintro e w' ⟨rfl, q, rfl⟩)
        | (gi_at_builtin; refine wpListIn_append_nlit rfl (.tmp 22) (.tmp 26) 22 rfl pair_ty rfl (HN.out.drewN _) rfl (by simp) rfl (by simp [Value.oneCell']) (by simp only [maxLen]; omega) (by omega) ?_; intro v3 w3 hn3 ha3; have ha4 : Ap ((W.drewN q).alloc (.cells #[.string (bs p.1), .string (bs p.2)] 128)) w3 2 (.slice bA ps.length bc) := ha3; have hb4 := ((HN.out.drewN q).alloc (.cells #[.string (bs p.1), .string (bs p.2)] 128)).buf; have HL := Lib.hid (((HI.out.l.drewN q).alloc (.cells #[.string (bs p.1), .string (bs p.2)] 128)).ap hb4 ha4 (by decide)); have HA := Lib.hid ha4; have HB := Lib.hid hb4; have r3 := HL.out.cell (i := 0) rfl; have q3 := HL.out.free 0; have hn4 := hn3.buf.shape; obtain ⟨gA, gc, rfl, hgc⟩ := hn4; have HN3 := Lib.hid hn3; clear hn3 ha3 ha4 hb4))
      have hgr := (HI.out.b.below (((Below.refl _ _).drewN' q).alloc (Nat.le_refl _) (.cells #[.string (bs p.1), .string (bs p.2)] 128))).ap HB.out HA.out
      have hw3 : w.heap.size ≤ W.heap.size := HI.out.buf.below.size
      refine ⟨(((KeepsOthers.drewN W q).trans (KeepsOthers.alloc _ _)).trans HA.out.others).trans (KeepsOthers.setCell _ _ _), fun k k1 k2 => ?_, .slice gA (ps.length + 1) gc, ps ++ [p], ?_⟩
      · rw [Below.heap_setCell w3 ⟨w.heap.size + 1 + 1, 0, none⟩ _ k (by show k ≠ w.heap.size + 1 + 1; omega), hgr.2 k k1 k2]
        exact Lib.alloc_old (W.drewN q) _ k (by
          have h3 := HI.out.b.b2
          obtain ⟨cur, h3⟩ := h3
          have := h3.lt
          show k < W.heap.size
          omega)
      · refine ⟨?_, ?_, ?_, ?_, hgr.1.other (by omega) _, ?_, ?_⟩
        · rw [List.map_append]
          exact pairsOf_snoc _ _ _ _ HI.out.eq hc
        · exact (((HI.out.r0.drewN q).alloc _).ap HB.out HA.out (by decide)).other (by omega) 0 _
        · exact (((HI.out.r1.drewN q).alloc _).ap HB.out HA.out (by decide)).other (by omega) 0 _
        · exact HL.out.set 0 _
        · rw [pcs_snoc, List.length_append]
          exact HN3.out.set_ne HL.out (by decide) (by omega) 0 _
        · intro y hy
          rw [List.mem_append, List.mem_singleton] at hy
          rcases hy with hy | rfl
          · exact HI.out.sm y hy
          · exact ⟨Nat.le_trans hcp.1 hx2, Nat.le_trans hcp.2 hx2⟩
  case done =>
    rintro D xs W hD hS ⟨v, ps, hI⟩ hK
    have hpe := hI.eq
    rw [hS] at hpe
    have hps := pairsOf_length _ _ hpe
    have hD2 : w.heap.size + 6 ≤ D := by simpa using hD
    have hmk := make_any v ps W hI.buf.slice (by omega) (fun p hp => by have := (hI.sm p hp).1; omega)
    have hmk2 : Calls Tryz.prog 115 #[v] W fun e w' => ∃ v2 m, e = .returned (.tuple #[v2, .int .i64 (errL (sorted ps))]) ∧ m.Perm ps ∧ Asc m ∧ NBuf W w' 128 2 v2 m.length (pcs m) := hmk.mono fun _ _ ⟨v2, m, g1, g2, g3, g4⟩ => ⟨v2, m, by rw [g1]; unfold errL; rw [chk_any g2 g3], g2, g3, g4⟩
    have r2 := hI.l.cell (i := 0) rfl
    have hpa : parse s = if chk (sorted ps) = true then (sorted ps, 0) else ([], 12) := by unfold parse; rw [hpe]
    have HI := Lib.hid hI
    have HPA := Lib.hid hpa
    have HK := Lib.hid hK
    by_cases hck : chk (sorted ps) = true
    · rw [show errL (sorted ps) = 0 by unfold errL; rw [if_pos hck]] at hmk2
      have HM := Lib.hid hmk2
      have HCK := Lib.hid hck
      clear hmk hmk2 hI hpe hps hpa hck hK
      gi_wp2_with (refine ⟨trivial, ?_⟩; gi_at_call 115; refine (callsIn_wide.2 HM.out).mono ?_; rintro e W2 ⟨v2, m, rfl, hm1, hm2, hn⟩; obtain ⟨gA, gc, rfl, hgc⟩ := hn.buf.shape; have z0 := (HI.out.r0.below hn.below).cell (i := 0) rfl; have z0f := (HI.out.r0.below hn.below).free 0; have z1 := (HI.out.r1.below hn.below).cell (i := 0) rfl; have z1f := (HI.out.r1.below hn.below).free 0; have HN := Lib.hid hn; have HM1 := Lib.hid hm1; have HM2 := Lib.hid hm2; clear hn hm1 hm2)
      have hKD := HK.out
      have hDlt : D < W.heap.size := (Array.getElem?_eq_some_iff.1 hKD).1
      have y0 := ((HI.out.r0.below HN.out.below).set 0 (.slice gA m.length gc)).other (b := w.heap.size + 1) (by omega) 0 (.int .i64 0)
      have y1 := ((HI.out.r1.below HN.out.below).other (b := w.heap.size) (by omega) 0 (.slice gA m.length gc)).set 0 (.int .i64 0)
      have hm : m = sorted ps := sorted_of HM1.out HM2.out (ok_unlike (chk_iff.1 HCK.out))
      have hNF := ((HN.out.after HI.out.buf.below).set_ne (HI.out.r0.below HN.out.below) (by decide) (Nat.le_refl _) 0 (.slice gA m.length gc)).set_ne ((HI.out.r1.below HN.out.below).other (b := w.heap.size) (by omega) 0 (.slice gA m.length gc)) (by decide) (Nat.le_succ _) 0 (.int .i64 0)
      have hKF : ((W2.setCell ⟨w.heap.size, 0, none⟩ (.slice gA m.length gc)).setCell ⟨w.heap.size + 1, 0, none⟩ (.int .i64 0)).heap[D]? = some (.deferred (some [])) := by
        rw [Below.heap_setCell _ ⟨w.heap.size + 1, 0, none⟩ _ D (by show D ≠ w.heap.size + 1; omega), Below.heap_setCell _ ⟨w.heap.size, 0, none⟩ _ D (by show D ≠ w.heap.size; omega), HN.out.below.block D hDlt]
        exact hKD
      have x0 := (y0.put hKF).cell (i := 0) rfl
      have x1 := (y1.put hKF).cell (i := 0) rfl
      refine ⟨by simp, .inl ⟨_, _, rfl, run_takeDeferred hKF, ?_⟩⟩
      refine ⟨_, by simp [results, Tryz.results94, go_sem, x0, x1]; rfl, ?_⟩
      have hpr : parse s = (m, 0) := by rw [HPA.out, if_pos HCK.out, hm]
      refine ⟨.slice gA m.length gc, ?_, ?_⟩
      · rw [hpr]; rfl
      · rw [hpr]; exact hNF.put hKF (by omega)
    · rw [show errL (sorted ps) = 12 by unfold errL; rw [if_neg hck]] at hmk2
      have HM := Lib.hid hmk2
      have HCK := Lib.hid hck
      clear hmk hmk2 hI hpe hps hpa hck hK
      gi_wp2_with (refine ⟨trivial, ?_⟩; gi_at_call 115; refine (callsIn_wide.2 HM.out).mono ?_; rintro e W2 ⟨v2, m, rfl, hm1, hm2, hn⟩; obtain ⟨gA, gc, rfl, hgc⟩ := hn.buf.shape; have z0 := (HI.out.r0.below hn.below).cell (i := 0) rfl; have z0f := (HI.out.r0.below hn.below).free 0; have z1 := (HI.out.r1.below hn.below).cell (i := 0) rfl; have z1f := (HI.out.r1.below hn.below).free 0; have HN := Lib.hid hn; have HM1 := Lib.hid hm1; have HM2 := Lib.hid hm2; clear hn hm1 hm2)
      have hKD := HK.out
      have hDlt : D < W.heap.size := (Array.getElem?_eq_some_iff.1 hKD).1
      have y0 := ((HI.out.r0.below HN.out.below).set 0 (.slice none 0 0)).other (b := w.heap.size + 1) (by omega) 0 (.int .i64 12)
      have y1 := ((HI.out.r1.below HN.out.below).other (b := w.heap.size) (by omega) 0 (.slice none 0 0)).set 0 (.int .i64 12)
      have hNF := ((HN.out.after HI.out.buf.below).set_ne (HI.out.r0.below HN.out.below) (by decide) (Nat.le_refl _) 0 (.slice none 0 0)).set_ne ((HI.out.r1.below HN.out.below).other (b := w.heap.size) (by omega) 0 (.slice none 0 0)) (by decide) (Nat.le_succ _) 0 (.int .i64 12)
      have hKF : ((W2.setCell ⟨w.heap.size, 0, none⟩ (.slice none 0 0)).setCell ⟨w.heap.size + 1, 0, none⟩ (.int .i64 12)).heap[D]? = some (.deferred (some [])) := by
        rw [Below.heap_setCell _ ⟨w.heap.size + 1, 0, none⟩ _ D (by show D ≠ w.heap.size + 1; omega), Below.heap_setCell _ ⟨w.heap.size, 0, none⟩ _ D (by show D ≠ w.heap.size; omega), HN.out.below.block D hDlt]
        exact hKD
      have x0 := (y0.put hKF).cell (i := 0) rfl
      have x1 := (y1.put hKF).cell (i := 0) rfl
      refine ⟨by simp, .inl ⟨_, _, rfl, run_takeDeferred hKF, ?_⟩⟩
      refine ⟨_, by simp [results, Tryz.results94, go_sem, x0, x1]; rfl, ?_⟩
      have hpr : parse s = ([], 12) := by rw [HPA.out, if_neg HCK.out]
      refine ⟨.slice none 0 0, ?_, ?_⟩
      · rw [hpr]; rfl
      · rw [hpr]; exact NBuf.nil (hNF.put hKF (by omega)).below _ _
  case stop =>
    rintro D c pre W hD hSp ⟨rfl, hX⟩ hK
    have hD2 : w.heap.size + 6 ≤ D := by simpa using hD
    obtain ⟨x, hx1, hx2⟩ := hX.no
    have hpr : parse s = ([], 3) := by
      unfold parse
      rw [pairsOf_mem (commas s) x (hSp.subset hx1) hx2]
    have x0 := (hX.r0.put hK).cell (i := 0) rfl
    have x1 := (hX.r1.put hK).cell (i := 0) rfl
    gi_wp2
    refine ⟨by simp, .inl ⟨_, _, rfl, run_takeDeferred hK, ?_⟩⟩
    refine ⟨_, by simp [results, Tryz.results94, go_sem, x0, x1]; rfl, ?_⟩
    refine ⟨.slice none 0 0, ?_, ?_⟩
    · rw [hpr]; rfl
    · rw [hpr]; exact NBuf.nil (NBuf.put (NBuf.nil hX.bl 128 2) hK (by omega)).below _ _

end Go.Proofs.YtgabmfibfikdbaaGreatDoor

/-
  Appends inside regions that draw their order (for Lib7, Lib8's rule). Plain lemmas over any program; no condition.
-/
namespace Go.Bar
open Go.RowKit

/-- append, an operation of a region that draws its order -/
theorem oper_append_buf {P : Program} {o : Oper} {a : Act} {w : World} {K : Act → World → Prop} {Q : Exit → Act → World → Prop} (s x : Operand) (t : TypeId)
    (ho : o.op = .call { callee := .builtin .append, args := #[s, x], argTypes := #[t, t] }) {e : TypeId} {z : Value} {sz bytes : Nat} (hT : ElemTy P t e z sz bytes)
    {v y : Value} {n k : Nat} {xs news : List Value} (hv : a.eval s = v) (h : Buf w e sz v n xs) (hx : a.eval x = y) (hs : Src P sz t y k news w)
    (h63 : n + k ≤ maxLen) (hbytes : (n + k) * bytes ≤ 140737488355328)
    (hK : ∀ v' w', Buf w' e sz v' (n + k) (xs ++ news) → Ap w w' sz v → Grew w v v' → K (a.put o.dst v') w') : Oper.wp P o a w K Q := by
  obtain ⟨i, hi, hz, h1, h2⟩ := hT.info
  obtain ⟨v', w', hr, g2, g3, g4⟩ := run_append_buf (P := P) t t o.type i z bytes hT.slice hi hz h1 h2 hT.zs h y k news hs h63 hbytes
  unfold Oper.wp execOp
  simp only [ho, resolve, invoke, builtin, Sem.run_bind, Sem.run_pure, Result.andThen_ok, List.map_toArray, List.map_cons, List.map_nil, hv, hx, hr]
  exact hK _ _ g2 g3 g4
theorem FBuf.grown {w0 w w' : World} {e : TypeId} {sz n n' : Nat} {v v' : Value} {xs ys : List Value} (h : FBuf w0 w e sz v n xs) (hb : w0.heap.size ≤ w.heap.size) (hB : Buf w' e sz v' n' ys) (hg : Grew w v v') : FBuf w0 w' e sz v' n' ys := ⟨hB, hg.new hb h.new⟩

end Go.Bar

/-
  Layer 6: the walks of Told and of the reference's Check, Get, Text, Key.
-/
namespace Go.Proofs.YtgabmfibfikdbaaGreatDoor
open Go.RowKit Go.Bar Go.Bar.Leb Go.Bar.Lab

theorem rpair_ty : ElemTy Tryz.prog 60 146 (.agg #[.string ByteArray.empty, .string ByteArray.empty]) 2 32 :=
  ⟨Tryz.underlying60, info_parts (show (Tryz.prog.info? 146).map (fun i => (i.zero, i.size, i.bytes)) = some (some (.agg #[.string ByteArray.empty, .string ByteArray.empty]), 2, 32) by kernel_rfl), rfl⟩

/-- the reference's pairs in a buffer of the call's own -/
def RetRN (w : World) (l : List Pr) (e : Ending) (w' : World) : Prop := ∃ v, e = .returned v ∧ NBuf w w' 146 2 v l.length (pcs l)

set_option maxHeartbeats 4000000 in
set_option maxRecDepth 10000 in
theorem told_any6 (v : Value) (l : List Pr) (w : World) (h : PsAt w v l) (hl : l.length ≤ 1000000) :
    Calls Tryz.prog 54 #[v] w (RetRN w l) := by
  obtain ⟨A, c, rfl, hlc, hcm⟩ := h.shape
  unfold maxLen at hcm
  have HN0 := Lib.hid (NBuf.lit0 (Below.refl w.heap.size w) 146 2)
  go_enter Tryz.func54, Tryz.ntmps54
  go_wp2_with fail
  go_loopw [9, 3] (fun i d wr => ∃ k : Nat, k ≤ l.length ∧ i = .int .i64 k ∧ Hid (NBuf w wr 146 2 d k (pcs (l.take k)))) (fun i _ _ => l.length - (intOf i).toNat)
  case atStart => exact ⟨0, Nat.zero_le _, rfl, HN0⟩
  case round =>
    obtain ⟨k, hk, rfl, hnb⟩ := hrel
    obtain ⟨fA, fc, rfl, hfc⟩ := hnb.out.buf.shape
    by_cases hgo : k < l.length
    · obtain ⟨p, hpk⟩ : ∃ p, l[k]? = some p := ⟨_, List.getElem?_eq_getElem hgo⟩
      obtain ⟨b, o, rfl, hbb, g1, g2⟩ := (h.below hnb.out.below).at_ hpk
      have HN1 := Lib.hid (hnb.out.alloc (.cells #[.string (bs p.1), .string (bs p.2)] 128))
      have HPK := Lib.hid hpk
      clear hpk
      go_wp2_with (at_builtin; refine wpList_append_nlit rfl (.tmp 13) (.tmp 15) 60 rfl rpair_ty rfl HN1.out rfl (by simp) rfl (by simp [Value.oneCell']) (by simp only [maxLen]; omega) (by omega) ?_; intro v3 w3 hn3 _; have HN3 := Lib.hid hn3; clear hn3)
      go_roundw
      case rel =>
        refine ⟨k + 1, by omega, by go_num, Lib.hid ?_⟩
        rw [List.take_add_one, HPK.out, pcs_append]
        exact HN3.out
      case measure => simp [intOf]; omega
    · obtain rfl : k = l.length := by omega
      have hn := hnb.out
      rw [List.take_length] at hn
      have HN := Lib.hid hn
      clear hn hgo
      go_wp2_with fail
      go_ret
      exact ⟨_, rfl, HN.out⟩

end Go.Proofs.YtgabmfibfikdbaaGreatDoor
