/-
  A range over a function whose iterator keeps its state in a captured box: the law of the walk (turned from the kit's wpIn_rangeFunc_ownF). Plain lemmas over any program; no condition.
-/
import Derived.Test.YtgabmfibfikdbaaGreatDoorZLib11
import Derived.RangeFuncFrom
import Derived.RangeFuncLeaves
import Derived.OwnWalkIn
import Derived.TacticsInMore
import Derived.Test.YtgabmfibfikdbaaGreatDoorZShelf
import Derived.Deep.QuietTactic
import Derived.BigQuiet
import Derived.IntWalk
import Derived.RangeFuncNested
import Derived.RangeFuncBound
import Derived.RangeFuncCalls
import Derived.Shelf.Abstract
import Derived.Shelf.AbstractIn
import Derived.Shelf.RegionOpen
import Derived.LoopNIn
import Derived.LoopIn

namespace Go.Bar
open Go Go.RowKit

/-- an iterator that stores into cell 0 of block lo, and reads blocks below up: these values come (S), or a part of them (Sp) -/
def SeqB {α : Type} (F : Fence) (n : Nat) (P : Program) (g : Nat) (lb : Array Value) (encs : α → Array Value) (lo up : Nat) (S Sp : List α → Prop) (N : Nat) (w : World) : Prop :=
  ∀ (l : Nat) (J Jx : List α → World → Prop) (W : World), Below w.heap.size w W → (∀ s W v, J s W → J s (W.setCell ⟨lo, 0, none⟩ v)) →
    (∀ pre x W1, J pre W1 → pre.length < N → YieldAt F (n - 1) P l (encs x) W1 fun e W' =>
      (e = .returned (.bool true) ∧ J (pre ++ [x]) W' ∧ ∀ k, lo ≤ k → k < up → W'.heap[k]? = W1.heap[k]?) ∨ (e = .returned (.bool false) ∧ Jx (pre ++ [x]) W')) →
    J [] W →
    CallsIn F n P g (#[.func (.yield l) #[] #[]] ++ lb) W fun e W' => (∃ v, e = .returned v) ∧ ((∃ xs, S xs ∧ J xs W') ∨ (∃ pre, Sp pre ∧ Jx pre W'))

variable {F : Fence} {n : Nat} {P : Program}

theorem wpIn_rangeFunc_ownB {α : Type} {g : Operand} {ps : Array Tmp} {assign body : Code} {Q : Exit → Act → World → Prop} {a : Act} {w : World}
    (hro : F.round = none) (h1 : 1 ≤ n) {gf : Nat} {lb : Array Value} (hg : a.eval g = .func (.func gf) #[] lb) (hFg : F.fn gf) (eg : ∀ args w, (callFunc gf args).run P w = .ok (.enter gf args) w)
    {encs : α → Array Value} {lo up : Nat} (hlo : lo < up) {S Sp : List α → Prop} {N : Nat} {w0 : World} (hseq : SeqB F (n - 1) P gf lb encs lo up S Sp N w0) (hhi : up ≤ w.heap.size)
    (hb0 : Below w0.heap.size w0 w) (hps : ∀ x, (encs x).size = ps.size)
    (I : List α → World → Prop) (Ix : Code → List α → World → Prop) (hI : OwnFrom w.heap.size I) (hIx : ∀ c, OwnFrom w.heap.size (Ix c)) (hIs : ∀ s W v, I s W → I s (W.setCell ⟨lo, 0, none⟩ v)) (h0 : I [] w) (a₁ : α → Act)
    (hassign : ∀ (l : Nat) (x : α) (W : World) (K : Act → World → Prop), K (a₁ x) W →
      assign.wpIn (F.inRound l) (n - 1 - 1) P (Exit.then K (fun _ _ _ => False)) { tmps := (ps.zip (encs x)).foldl (fun t (p, v) => t.setIfInBounds p v) a.tmps, defers := [] } W)
    (hbody : ∀ (l : Nat) (pre : List α) (x : α) (W : World), I pre W → pre.length < N → body.wpIn (F.inRound l) (n - 1 - 1) P (ownPostK (fun W1 W' => ∀ k, lo ≤ k → k < up → W'.heap[k]? = W1.heap[k]?) I Ix (pre ++ [x]) W) (a₁ x) W)
    (hdone : ∀ (D : Nat) (xs : List α) (W : World), w.heap.size ≤ D → S xs → I xs W → W.heap[D]? = some (.deferred (some [])) → Q .normal { a with defers := { target := .collected D, args := #[] } :: a.defers } W)
    (hstop : ∀ (D : Nat) (c : Code) (pre : List α) (W : World), w.heap.size ≤ D → Sp pre → Ix c pre W → W.heap[D]? = some (.deferred (some [])) → c.wpIn F n P Q { a with defers := { target := .collected D, args := #[] } :: a.defers } W) :
    (Code.rangeFunc g ps assign body).wpIn F n P Q a w := by
  refine wpIn_rangeFunc ?_
  intro fn hfn
  rw [hro]
  obtain ⟨rec, hrec⟩ : ∃ rec : LoopState → Option Code → Loop, rec = fun st pe => { state := st, pending := pe, fn, tmps := a.tmps, params := ps, assign, body, defers := w.heap.size } := ⟨_, rfl⟩
  obtain ⟨W1, hW1⟩ : ∃ W1, (w.alloc (.deferred (some []))).alloc (.loop (rec .ready none)) = W1 := ⟨_, rfl⟩
  have hL1 : W1.heap[w.heap.size + 1]? = some (.loop (rec .ready none)) := by
    rw [← hW1]; have := World.alloc_heap_new (w.alloc (.deferred (some []))) (.loop (rec .ready none)); rwa [World.size_alloc] at this
  have hK1 : W1.heap[w.heap.size]? = some (.deferred (some [])) := by
    rw [← hW1]; exact (Below.heap_alloc _ _ _ (by simp)).trans (World.alloc_heap_new w _)
  have hI1 : I [] W1 := by rw [← hW1]; exact hI.alloc _ (hI.alloc _ h0)
  have hb1 : Below w0.heap.size w0 W1 := by
    rw [← hW1]; exact hb0.trans ((((Below.refl _ w).alloc (Nat.le_refl _) _).alloc (by simp) _).mono hb0.size)
  refine ⟨w.heap.size + 1, [{ target := .collected w.heap.size, args := #[] }], W1, { target := .fn (.func gf) lb, args := #[.func (.yield (w.heap.size + 1)) #[] #[]] }, W1, gf,
    #[.func (.yield (w.heap.size + 1)) #[] #[]] ++ lb, W1, ?_, ?_, ?_, ?_, fun _ => h1, ?_⟩
  · rw [← hW1, hrec]; exact run_enterLoop_outer _ _ _ _ _
  · simp only [resolve, hg]
    simp [go_sem]
  · intro f' hf'; simp [Target.leads] at hf'; subst hf'; exact hFg
  · simp [invoke, go_sem, eg]
  · -- THE ITERATOR's CONTRACT, AT THE CALLER's INVARIANT WITH THE TWO FACTS OF BOOK-KEEPING BESIDE IT
    refine (hseq (w.heap.size + 1)
      (fun pre W => I pre W ∧ W.heap[w.heap.size + 1]? = some (.loop (rec .ready none)) ∧ W.heap[w.heap.size]? = some (.deferred (some [])))
      (fun pre W => ∃ c, Ix c pre W ∧ W.heap[w.heap.size + 1]? = some (.loop (rec .done (some c))) ∧ W.heap[w.heap.size]? = some (.deferred (some [])))
      W1 hb1
      (fun s W v hs => ⟨hIs s W v hs.1, (Below.heap_setCell W ⟨lo, 0, none⟩ v _ (by show _ ≠ lo; omega)).trans hs.2.1, (Below.heap_setCell W ⟨lo, 0, none⟩ v _ (by show _ ≠ lo; omega)).trans hs.2.2⟩)
      ?_ ⟨hI1, hL1, hK1⟩).mono ?_
    · -- ONE ROUND
      rintro pre x W ⟨hi, hl, hk⟩ hlen
      have hlt : w.heap.size + 1 < W.heap.size := (Array.getElem?_eq_some_iff.1 hl).1
      have hy := run_yield (P := P) (args := encs x) hl (by rw [hrec]; exact hps x)
      rw [hrec] at hy
      refine ⟨fn, _, assign, body, hy, roundIn_of_wpIn hfn (hassign _ x W _ ⟨_, run_beginRound hl (by rw [hrec]), ?_⟩)⟩
      have hl2 : (W.putObj (w.heap.size + 1) (.loop { rec .ready none with state := .busy })).heap[w.heap.size + 1]? = some (.loop { rec .ready none with state := .busy }) := World.putObj_heap_same hlt
      have hk2 : (W.putObj (w.heap.size + 1) (.loop { rec .ready none with state := .busy })).heap[w.heap.size]? = some (.deferred (some [])) := (World.putObj_heap_other (by omega)).trans hk
      have hw2 : ∀ k, lo ≤ k → k < up → (W.putObj (w.heap.size + 1) (.loop { rec .ready none with state := .busy })).heap[k]? = W.heap[k]? := fun k _ hk => World.putObj_heap_other (by omega)
      refine wpIn_mono (hbody _ pre x _ (hI.putObj _ hi (by omega) hl rfl) hlen) ?_
      have fin : ∀ (jump : Option Code) (W3 : World), KeepsOthers (W.putObj (w.heap.size + 1) (.loop { rec .ready none with state := .busy })) W3 →
          (Instr.endRound (w.heap.size + 1) jump).run P W3 = .ok (.bool jump.isNone) (W3.putObj (w.heap.size + 1) (.loop (rec (if jump.isNone then .ready else .done) jump))) ∧
          W3.heap[w.heap.size + 1]? = some (.loop { rec .ready none with state := .busy }) ∧
          (W3.putObj (w.heap.size + 1) (.loop (rec (if jump.isNone then .ready else .done) jump))).heap[w.heap.size + 1]? = some (.loop (rec (if jump.isNone then .ready else .done) jump)) ∧
          (W3.putObj (w.heap.size + 1) (.loop (rec (if jump.isNone then .ready else .done) jump))).heap[w.heap.size]? = some (.deferred (some [])) := fun jump W3 hk3 => by
        have hl3 := hk3.same _ _ hl2 rfl
        have := run_endRound (P := P) jump hl3
        rw [hrec] at this ⊢
        exact ⟨this, by rw [hrec] at hl3; exact hl3, World.putObj_heap_same (Array.getElem?_eq_some_iff.1 hl3).1, (World.putObj_heap_other (by omega)).trans (hk3.same _ _ hk2 rfl)⟩
      rintro e a3 W3 hp
      cases e with
      | normal =>
        obtain ⟨hk3, hkp3, hi3⟩ := hp
        obtain ⟨hr, hl3, hl4, hk4⟩ := fin none W3 hk3
        exact ⟨_, _, hr, .inl ⟨rfl, ⟨hI.putObj _ hi3 (by omega) hl3 rfl, hl4, hk4⟩, fun k hk0 hk => (World.putObj_heap_other (by omega)).trans ((hkp3 k hk0 hk).trans (hw2 k hk0 hk))⟩⟩
      | ret =>
        obtain ⟨hk3, hi3⟩ := hp
        obtain ⟨hr, hl3, hl4, hk4⟩ := fin (some .ret) W3 hk3
        exact ⟨_, _, hr, .inr ⟨rfl, .ret, (hIx _).putObj _ hi3 (by omega) hl3 rfl, hl4, hk4⟩⟩
      | exit id =>
        obtain ⟨hk3, hi3⟩ := hp
        obtain ⟨hr, hl3, hl4, hk4⟩ := fin (some (.exit id)) W3 hk3
        exact ⟨_, _, hr, .inr ⟨rfl, .exit id, (hIx _).putObj _ hi3 (by omega) hl3 rfl, hl4, hk4⟩⟩
      | goto t =>
        obtain ⟨hk3, hi3⟩ := hp
        obtain ⟨hr, hl3, hl4, hk4⟩ := fin (some (.goto t)) W3 hk3
        exact ⟨_, _, hr, .inr ⟨rfl, .goto t, (hIx _).putObj _ hi3 (by omega) hl3 rfl, hl4, hk4⟩⟩
      | panic ch => exact hp.elim
      | outgrown => exact hp.elim
    · -- BEHIND THE ITERATOR
      rintro e W2 ⟨⟨v, rfl⟩, (⟨xs, hS, hi, hl, hk⟩ | ⟨pre, hSp, c, hi, hl, hk⟩)⟩
      · exact ⟨none, _, by have := run_endLoop (P := P) hl (by rw [hrec]; simp); rw [hrec] at this; exact this, hdone _ xs _ (Nat.le_refl _) hS (hI.putObj _ hi (by omega) hl rfl) ((World.putObj_heap_other (by omega)).trans hk)⟩
      · exact ⟨some c, _, by have := run_endLoop (P := P) hl (by rw [hrec]; simp); rw [hrec] at this; exact this, hstop _ c pre _ (Nat.le_refl _) hSp ((hIx c).putObj _ hi (by omega) hl rfl) ((World.putObj_heap_other (by omega)).trans hk)⟩

/-- a buffer abides the turn of a block that is no cells -/
theorem Buf.turned {w w' : World} {row : Option Nat} {e : TypeId} {sz n : Nat} {v : Value} {xs : List Value} (h : Buf w e sz v n xs) (hg : w.grownBy w' row) (hr : ∀ r, row = some r → ∃ o : Obj, w.heap[r]? = some o ∧ o.isCells = false) : Buf w' e sz v n xs := by
  obtain ⟨hl, A, c, rfl, hnc, hc, hv⟩ := h
  refine ⟨hl, A, c, rfl, hnc, hc, fun h0 => ?_⟩
  obtain ⟨b, o, cur, fr, rfl, hb, hs, hf, hx⟩ := hv h0
  refine ⟨b, o, cur, fr, rfl, (hg.block b (Array.getElem?_eq_some_iff.1 hb).1 (fun e => ?_)).trans hb, hs, hf, hx⟩
  obtain ⟨ob, h1, h2⟩ := hr b e.symm
  rw [hb] at h1
  injection h1 with h1
  subst h1
  cases h2
theorem Blk.turned {w w' : World} {row : Option Nat} {M : Nat} {T : TypeId} {cur : Array Value} (h : Blk w M T cur) (hg : w.grownBy w' row) (hr : ∀ r, row = some r → ∃ o : Obj, w.heap[r]? = some o ∧ o.isCells = false) : Blk w' M T cur := by
  refine (hg.block M h.lt (fun e => ?_)).trans h
  obtain ⟨ob, h1, h2⟩ := hr M e.symm
  unfold Blk at h
  rw [h] at h1
  injection h1 with h1
  subst h1
  cases h2

theorem Ap.others {w w' : World} {sz : Nat} {v : Value} (h : Ap w w' sz v) : KeepsOthers w w' :=
  ⟨h.size, fun k o hk ho => by
    rcases h.block k (Array.getElem?_eq_some_iff.1 hk).1 with h1 | ⟨o1, n, c, cur, cur', e, fr, _, h2, _⟩
    · exact h1.trans hk
    · rw [hk] at h2
      injection h2 with h2
      subst h2
      cases ho⟩

/-- append(b, literal) in a fence, b of the call's own -/
theorem wpListIn_append_nlit {F : Fence} {nn : Nat} {P : Program} {ops : Array Oper} {rest : List Oper} {o : Oper} {a : Act} {Q : Exit → Act → World → Prop} {w : World} (hgd : o.guard = none) (s x : Operand) (t : TypeId)
    (ho : o.op = .call { callee := .builtin .append, args := #[s, x], argTypes := #[t, t] })
    {e : TypeId} {z : Value} {sz bytes : Nat} (hT : ElemTy P t e z sz bytes)
    {W : World} {v : Value} {m k : Nat} {ys news : List Value} (hv : a.eval s = v) (h : NBuf W w e sz v m ys) {H : Nat} (hx : a.eval x = .slice (some ⟨H, 0, none⟩) k k) (hH : w.heap.size = H)
    (hl : news.length = k * sz) (h1 : ∀ u ∈ news, u.oneCell' = true) (h63 : m + k ≤ maxLen) (hbytes : (m + k) * bytes ≤ 140737488355328)
    (hK : ∀ v' w', NBuf W w' e sz v' (m + k) (ys ++ news) → Ap (w.alloc (.cells news.toArray e)) w' sz v → wpListIn F nn P ops Q rest (a.put o.dst v') w') : wpListIn F nn P ops Q (o :: rest) a (w.alloc (.cells news.toArray e)) := by
  subst hH
  refine wpListIn_plain hgd fun K hK' => ?_
  obtain ⟨i, hi, hz, hs1, hb1⟩ := hT.info
  obtain ⟨v', w', hrun, r1, r2, r3⟩ := run_append_buf (P := P) t t o.type i z bytes hT.slice hi hz hs1 hb1 hT.zs (h.alloc _).buf (.slice (some ⟨w.heap.size, 0, none⟩) k k) k news ((Buf.lit w e sz k news hl (by omega)).src hT.slice h1) h63 hbytes
  unfold Oper.wpIn
  refine ⟨?_, ?_⟩
  · simp [Oper.about, ho, resolve, Target.leads, Sem.run_pure]
  · rw [Oper.semAt_plain F _ _ (by rw [ho]; intro c hc'; cases hc')]
    simp [execOp, ho, resolve, invoke, builtin, hv, hx, hrun, Result.andThen]
    exact hK' _ _ (hK v' w' ((h.alloc _).step r1 r2 r3) r2)

end Go.Bar

/-
  strings.Cut at '=' and strings.SplitSeq at ',': the walks; the iterator's contract.
-/
namespace Go.Proofs.YtgabmfibfikdbaaGreatDoor
open Go.RowKit Go.Bar Go.Bar.Leb Go.Bar.Lab

attribute [local go_sem] Oper.semAt_some

theorem first_of : ∀ (l : List UInt8) (c : UInt8), Lib.indexByte l c = -1 ∧ c ∉ l ∨ ∃ k : Nat, Lib.indexByte l c = k ∧ l[k]? = some c ∧ c ∉ l.take k
  | [], c => .inl ⟨rfl, by simp⟩
  | b :: l, c => by
    unfold Lib.indexByte
    by_cases h : b = c
    · subst h
      rw [if_pos (by simp)]
      exact .inr ⟨0, rfl, rfl, by simp⟩
    · rw [if_neg (by simpa using h)]
      rcases first_of l c with ⟨h1, h2⟩ | ⟨k, h1, h2, h3⟩
      · rw [h1]
        exact .inl ⟨rfl, by simp [h2]; exact fun e => h e.symm⟩
      · rw [h1, if_neg (by simp)]
        exact .inr ⟨k + 1, by omega, by simpa using h2, by simp [h3]; exact fun e => h e.symm⟩
theorem split_at {l : List UInt8} {k : Nat} {c : UInt8} (h : l[k]? = some c) : l = l.take k ++ c :: l.drop (k + 1) := by
  obtain ⟨hl, hq⟩ := List.getElem?_eq_some_iff.1 h
  rw [← hq, List.getElem_cons_drop, List.take_append_drop]

set_option maxHeartbeats 1000000 in
set_option maxRecDepth 10000 in
theorem liteCut_any (s : List UInt8) (w : World) (hs : s.length ≤ 1000000000000) :
    Calls Tryz.prog 137 #[.string (bs s), .string { data := #[61] }] w (Quiet w (match cutEq s with | some p => .tuple #[.string (bs p.1), .string (bs p.2), .bool true] | none => .tuple #[.string (bs s), .string (bs []), .bool false])) := by
  have hi := fun w => Tryz.stringslite_Index_one (bs s) 61 w
  rcases first_of s 61 with ⟨h1, h2⟩ | ⟨k, h1, h2, h3⟩
  · rw [cutEq_none s h2]
    have hi2 : ∀ w, Calls Tryz.prog 150 #[.string (bs s), .string { data := #[61] }] w fun e w' => e = .returned (.int .i64 (-1)) ∧ w = w' := fun w => (hi w).mono fun _ _ ⟨g1, g2⟩ => ⟨by rw [g1, bs_data, h1], g2.symm⟩
    have HI := Lib.hid hi2
    clear hi hi2 h1 h2
    go_enter Tryz.func137, Tryz.ntmps137
    go_wp2_with fail
    refine (HI.out _).mono ?_
    rintro e w' ⟨rfl, rfl⟩
    go_wp2_with fail
    go_ret3
    exact ⟨rfl, 0, rfl⟩
  · have hc : cutEq s = some (s.take k, s.drop (k + 1)) := by
      conv => lhs; rw [split_at h2]
      exact cutEq_at _ _ h3
    rw [hc]
    have hkl : k < s.length := (List.getElem?_eq_some_iff.1 h2).1
    have hi2 : ∀ w, Calls Tryz.prog 150 #[.string (bs s), .string { data := #[61] }] w fun e w' => e = .returned (.int .i64 k) ∧ w = w' := fun w => (hi w).mono fun _ _ ⟨g1, g2⟩ => ⟨by rw [g1, bs_data, h1], g2.symm⟩
    have HI := Lib.hid hi2
    have hs1 := fun w => slice_to (P := Tryz.prog) (t := 9) Tryz.underlying9 s k (by omega) w
    have hs2 := fun w => slice_from (P := Tryz.prog) (t := 9) Tryz.underlying9 s (k + 1) (by omega) w
    rw [show ((k + 1 : Nat) : Int) = (k : Int) + 1 by omega] at hs2
    have hkw : IntKind.i64.wrap ((k : Int) + 1) = (k : Int) + 1 := IntWalk.i64_in _ ⟨by omega, by omega⟩
    have hk1 : (0 : Int) ≤ (k : Int) + 1 := by omega
    clear hi hi2 h1 h2 h3 hc
    go_enter Tryz.func137, Tryz.ntmps137
    go_wp2_with fail
    refine (HI.out _).mono ?_
    rintro e w' ⟨rfl, rfl⟩
    go_wp2_with fail
    go_quiet (fail)
    go_wp2_with fail
    go_ret3
    exact ⟨rfl, _, rfl⟩

set_option maxHeartbeats 1000000 in
theorem cut1_any (s : List UInt8) (w : World) (hs : s.length ≤ 1000000000000) :
    Calls Tryz.prog 114 #[.string (bs s), .string { data := #[61] }] w (Quiet w (match cutEq s with | some p => .tuple #[.string (bs p.1), .string (bs p.2), .bool true] | none => .tuple #[.string (bs s), .string (bs []), .bool false])) := by
  have hl := liteCut_any s w hs
  rcases hc : cutEq s with _ | ⟨a, b⟩
  · rw [hc] at hl
    have HL := Lib.hid hl
    clear hl hc
    go_enter Tryz.func114, Tryz.ntmps114
    go_wp2_with fail
    refine HL.out.mono ?_
    rintro e w' ⟨rfl, n, rfl⟩
    go_wp2_with fail
    go_ret3
    exact ⟨rfl, _, rfl⟩
  · rw [hc] at hl
    have HL := Lib.hid hl
    clear hl hc
    go_enter Tryz.func114, Tryz.ntmps114
    go_wp2_with fail
    refine HL.out.mono ?_
    rintro e w' ⟨rfl, n, rfl⟩
    go_wp2_with fail
    go_ret3
    exact ⟨rfl, _, rfl⟩

/-- the iterator's boxes: the text that is left, the comma, nothing to be kept -/
structure SpB (w : World) (B : Nat) (rest : List UInt8) : Prop where
  b0 : Blk w B 9 #[.string (bs rest)]
  b1 : Blk w (B + 1) 9 #[.string { data := #[44] }]
  b2 : Blk w (B + 2) 3 #[.int .i64 0]
theorem SpB.below {w w' : World} {B : Nat} {rest : List UInt8} (h : SpB w B rest) (hb : Below w.heap.size w w') : SpB w' B rest := ⟨h.b0.below hb, h.b1.below hb, h.b2.below hb⟩
theorem SpB.kept {w w' : World} {B : Nat} {rest : List UInt8} (h : SpB w B rest) (hb : ∀ k, B ≤ k → k < B + 3 → w'.heap[k]? = w.heap[k]?) : SpB w' B rest := ⟨(hb B (by omega) (by omega)).trans h.b0, (hb (B + 1) (by omega) (by omega)).trans h.b1, (hb (B + 2) (by omega) (by omega)).trans h.b2⟩
theorem SpB.set {w : World} {B : Nat} {rest : List UInt8} (h : SpB w B rest) (r : List UInt8) : SpB (w.setCell ⟨B, 0, none⟩ (.string (bs r))) B r :=
  ⟨h.b0.set 0 _, h.b1.other (by omega) 0 _, h.b2.other (by omega) 0 _⟩
/-- how much is left -/
def leftOf (w : World) (B : Nat) : Nat := match w.cell? ⟨B, 0, none⟩ with | some (.string z) => z.size | _ => 0
theorem leftOf_eq {w : World} {B : Nat} {rest : List UInt8} (h : SpB w B rest) : leftOf w B = rest.length := by
  unfold leftOf
  rw [h.b0.cell (i := 0) rfl]
  rfl

set_option maxHeartbeats 1000000 in
set_option maxRecDepth 10000 in
theorem split_seq (s : List UInt8) (hs : s.length ≤ 1000000000000) (n : Nat) (hn : 1 ≤ n) (B : Nat) (w : World) (h : SpB w B s) :
    SeqB Fence.wide n Tryz.prog 147 #[.pointer (some ⟨B + 1, 0, none⟩), .pointer (some ⟨B, 0, none⟩), .pointer (some ⟨B + 2, 0, none⟩)] (fun x : { x : List UInt8 // x.length ≤ s.length } => #[.string (bs x.1)]) B (B + 3) (fun xs => xs.map (·.1) = commas s) (fun pre => pre.map (·.1) <+: commas s) (commas s).length w := fun l J Jx W hW hJs hY h0 => by
  have h := h.below hW
  have hi := fun (r : List UInt8) w => Tryz.strings_Index_one (bs r) 44 w
  have HI := Lib.hid hi
  clear hi
  refine callsIn_of_wp Tryz.func147 rfl trivial ?_ rfl
  simp only [Tryz.ntmps147, List.size_toArray, List.length_cons, List.length_nil, Nat.reduceAdd, Nat.reduceSub, Array.replicate_succ, Array.replicate_zero, List.push_toArray, List.append_toArray, List.nil_append, List.cons_append]
  have c1 := h.b1.cell (i := 0) rfl
  gi_wp2
  clear c1
  gi_loopw [7] (fun _ wr => ∃ (pre : List { x : List UInt8 // x.length ≤ s.length }) (rest : List UInt8), Hid (commas s = pre.map (·.1) ++ commas rest) ∧ rest.length ≤ s.length ∧ Hid (SpB wr B rest) ∧ Hid (J pre wr)) (fun _ wr => leftOf wr B)
  case atStart => exact ⟨[], s, Lib.hid rfl, Nat.le_refl _, Lib.hid h, Lib.hid h0⟩
  case round =>
    obtain ⟨pre, rest, hc, hrl, hsp, hJ⟩ := hrel
    have a0 := hsp.out.b0.cell (i := 0) rfl
    have a1 := hsp.out.b1.cell (i := 0) rfl
    have a2 := hsp.out.b2.cell (i := 0) rfl
    rcases first_of rest 44 with ⟨h1, h2⟩ | ⟨k, h1, h2, h3⟩
    · have hr := commas_none rest h2
      have hI2 : ∀ w, CallsIn Fence.wide (n - 1) Tryz.prog 149 #[.string (bs rest), .string { data := #[44] }] w fun e w' => e = .returned (.int .i64 (-1)) ∧ w = w' := fun w => callsIn_wide.2 ((HI.out rest w).mono fun _ _ ⟨g1, g2⟩ => ⟨by rw [g1, bs_data, h1], g2.symm⟩)
      have hlen : pre.length < (commas s).length := by rw [hc.out, hr]; simp
      obtain ⟨fn, tmps, assign, body, hy, hR⟩ := hY pre ⟨rest, hrl⟩ wr hJ.out hlen
      have HR := Lib.hid hR
      have HI3 := Lib.hid hI2
      have HC := Lib.hid (show commas s = (pre ++ [(⟨rest, hrl⟩ : { x : List UInt8 // x.length ≤ s.length })]).map (·.1) by rw [hc.out, hr]; simp)
      clear h1 h2 hr hlen hI2 hR
      gi_wp2_with (refine ⟨trivial, ?_⟩; gi_at_call 149; refine (HI3.out _).mono ?_; rintro e w' ⟨rfl, rfl⟩)
      refine HR.out.mono ?_
      rintro e w' (⟨rfl, hJ1, hk1⟩ | ⟨rfl, hJx⟩)
      · have HJ1 := Lib.hid hJ1
        clear hJ1 hk1
        gi_wp2
        go_end0
        exact ⟨⟨_, rfl⟩, .inl ⟨_, HC.out.symm, HJ1.out⟩⟩
      · have HJ1 := Lib.hid hJx
        clear hJx
        gi_wp2
        go_end0
        exact ⟨⟨_, rfl⟩, .inr ⟨_, by rw [HC.out]; exact List.prefix_refl _, HJ1.out⟩⟩
    · have hkl : k < rest.length := (List.getElem?_eq_some_iff.1 h2).1
      have hr : commas rest = rest.take k :: commas (rest.drop (k + 1)) := by
        conv => lhs; rw [split_at h2]
        exact commas_at _ _ h3
      have hI2 : ∀ w, CallsIn Fence.wide (n - 1) Tryz.prog 149 #[.string (bs rest), .string { data := #[44] }] w fun e w' => e = .returned (.int .i64 k) ∧ w = w' := fun w => callsIn_wide.2 ((HI.out rest w).mono fun _ _ ⟨g1, g2⟩ => ⟨by rw [g1, bs_data, h1], g2.symm⟩)
      have hlen : pre.length < (commas s).length := by rw [hc.out, hr]; simp
      obtain ⟨fn, tmps, assign, body, hy, hR⟩ := hY pre ⟨rest.take k, by rw [List.length_take]; omega⟩ wr hJ.out hlen
      have HR := Lib.hid hR
      have HI3 := Lib.hid hI2
      have HC := Lib.hid (show commas s = (pre ++ [(⟨rest.take k, by rw [List.length_take]; omega⟩ : { x : List UInt8 // x.length ≤ s.length })]).map (·.1) ++ commas (rest.drop (k + 1)) by rw [hc.out, hr]; simp)
      have hs1 := fun w => slice_to (P := Tryz.prog) (t := 9) Tryz.underlying9 rest k (by omega) w
      have hs2 := fun w => slice_from (P := Tryz.prog) (t := 9) Tryz.underlying9 rest (k + 1) (by omega) w
      rw [show ((k + 1 : Nat) : Int) = (k : Int) + 1 by omega] at hs2
      have HS2 := Lib.hid hs2
      clear h1 h2 h3 hr hlen hI2 hR hs2
      gi_wp2_with (refine ⟨trivial, ?_⟩; gi_at_call 149; refine (HI3.out _).mono ?_; rintro e w' ⟨rfl, rfl⟩)
      refine HR.out.mono ?_
      rintro e w' (⟨rfl, hJ1, hk1⟩ | ⟨rfl, hJx⟩)
      · have hsp1 := hsp.out.kept hk1
        have HJ1 := Lib.hid (hJs _ _ (.string (bs (rest.drop (k + 1)))) hJ1)
        have HSP := Lib.hid (hsp1.set (rest.drop (k + 1)))
        have a0' := hsp1.b0.cell (i := 0) rfl
        have f0' := hsp1.b0.free 0
        have a1' := hsp1.b1.cell (i := 0) rfl
        have hs2 := HS2.out
        have HLO := Lib.hid (leftOf_eq hsp.out)
        clear hJ1 hk1 hsp1 a0 a1 a2
        gi_wp2
        go_roundw
        case rel => exact ⟨_, _, HC, by rw [List.length_drop]; omega, HSP, HJ1⟩
        case measure =>
          rw [leftOf_eq HSP.out, HLO.out, List.length_drop]
          omega
      · have HJ1 := Lib.hid hJx
        clear hJx
        gi_wp2
        refine bodyPost_ret (results_none rfl _ _ _) rfl ?_
        exact ⟨⟨_, rfl⟩, .inr ⟨_, by rw [HC.out]; exact List.prefix_append _ _, HJ1.out⟩⟩

set_option maxHeartbeats 1000000 in
theorem splitSeq_any (s : List UInt8) (w : World) :
    Calls Tryz.prog 113 #[.string (bs s), .string { data := #[44] }] w fun e w' => e = .returned (.func (.func 147) #[] #[.pointer (some ⟨w.heap.size + 1, 0, none⟩), .pointer (some ⟨w.heap.size, 0, none⟩), .pointer (some ⟨w.heap.size + 2, 0, none⟩)]) ∧
      w' = ((w.alloc (.cells #[.string (bs s)] 9)).alloc (.cells #[.string { data := #[44] }] 9)).alloc (.cells #[.int .i64 0] 3) := by
  have h1 : ∀ w, Calls Tryz.prog 136 #[.string (bs s), .string { data := #[44] }, .int .i64 0] w fun e w' => e = .returned (.func (.func 147) #[] #[.pointer (some ⟨w.heap.size + 1, 0, none⟩), .pointer (some ⟨w.heap.size, 0, none⟩), .pointer (some ⟨w.heap.size + 2, 0, none⟩)]) ∧
      w' = ((w.alloc (.cells #[.string (bs s)] 9)).alloc (.cells #[.string { data := #[44] }] 9)).alloc (.cells #[.int .i64 0] 3) := by
    intro w
    go_enter Tryz.func136, Tryz.ntmps136
    go_wp2_with fail
    go_ret
    exact ⟨rfl, rfl⟩
  have H1 := Lib.hid h1
  clear h1
  go_enter Tryz.func113, Tryz.ntmps113
  go_wp2_with fail
  refine (H1.out _).mono ?_
  rintro e w' ⟨rfl, rfl⟩
  go_wp2_with fail
  go_ret
  exact ⟨rfl, rfl⟩

end Go.Proofs.YtgabmfibfikdbaaGreatDoor
