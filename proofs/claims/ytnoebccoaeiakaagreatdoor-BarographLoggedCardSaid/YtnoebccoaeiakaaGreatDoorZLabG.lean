/-
  strings.Cut at '=' and strings.SplitSeq at ',': the walks; the iterator's contract.
-/
import Derived.Test.YtnoebccoaeiakaaGreatDoorZLabD
import Derived.Test.YtnoebccoaeiakaaGreatDoorZLib15
import Derived.Deep.QuietTactic
import Derived.BigQuiet
import Derived.IntWalk
import Derived.RangeFuncNested
import Derived.RangeFuncBound
import Derived.RangeFuncCalls
import Derived.Shelf.Abstract
import Derived.Shelf.AbstractIn
import Derived.Shelf.RegionOpen
import Derived.OwnWalkIn
import Derived.TacticsInMore
import Derived.LoopNIn
import Derived.LoopIn
import Derived.Test.YtnoebccoaeiakaaGreatDoorZHdE
import Derived.Test.YtnoebccoaeiakaaGreatDoorZLib1
import Derived.Lib.Strings
import Derived.Test.YtnoebccoaeiakaaGreatDoorZLib8
import Derived.Test.YtnoebccoaeiakaaGreatDoorZLib12
import Derived.Test.YtnoebccoaeiakaaGreatDoorZHdA
import Derived.Test.YtnoebccoaeiakaaGreatDoorZRws
import Derived.Test.YtnoebccoaeiakaaGreatDoorZLib25
import Derived.Test.YtnoebccoaeiakaaGreatDoorZLib22
import Derived.Deep.CutRange
import Derived.Test.YtnoebccoaeiakaaGreatDoorZFrmM

namespace Go.Proofs.YtnoebccoaeiakaaGreatDoor
open Go.RowKit Go.Bar Go.Bar.Leb Go.Bar.Lab

attribute [local go_sem] Oper.semAt_some

theorem first_of : ∀ (l : List UInt8) (c : UInt8), Lib.indexByte l c = -1 ∧ c ∉ l ∨ ∃ k : Nat, Lib.indexByte l c = k ∧ l[k]? = some c ∧ c ∉ l.take k
  | [], c => .inl ⟨rfl, by simp⟩
  | b :: l, c => by
    unfold Lib.indexByte
    by_cases h : b = c
    · subst h
      rw [if_pos (by simp)]
      exact .inr ⟨0, rfl, rfl, by simp⟩
    · rw [if_neg (by simpa using h)]
      rcases first_of l c with ⟨h1, h2⟩ | ⟨k, h1, h2, h3⟩
      · rw [h1]
        exact .inl ⟨rfl, by simp [h2]; exact fun e => h e.symm⟩
      · rw [h1, if_neg (by simp)]
        exact .inr ⟨k + 1, by omega, by simpa using h2, by simp [h3]; exact fun e => h e.symm⟩
theorem split_at {l : List UInt8} {k : Nat} {c : UInt8} (h : l[k]? = some c) : l = l.take k ++ c :: l.drop (k + 1) := by
  obtain ⟨hl, hq⟩ := List.getElem?_eq_some_iff.1 h
  rw [← hq, List.getElem_cons_drop, List.take_append_drop]

set_option maxHeartbeats 1000000 in
set_option maxRecDepth 10000 in
theorem liteCut_any (s : List UInt8) (w : World) (hs : s.length ≤ 1000000000000) :
    Calls Tryz.prog 140 #[.string (bs s), .string { data := #[61] }] w (Quiet w (match cutEq s with | some p => .tuple #[.string (bs p.1), .string (bs p.2), .bool true] | none => .tuple #[.string (bs s), .string (bs []), .bool false])) := by
  have hi := fun w => Tryz.stringslite_Index_one (bs s) 61 w
  rcases first_of s 61 with ⟨h1, h2⟩ | ⟨k, h1, h2, h3⟩
  · rw [cutEq_none s h2]
    have hi2 : ∀ w, Calls Tryz.prog 182 #[.string (bs s), .string { data := #[61] }] w fun e w' => e = .returned (.int .i64 (-1)) ∧ w = w' := fun w => (hi w).mono fun _ _ ⟨g1, g2⟩ => ⟨by rw [g1, bs_data, h1], g2.symm⟩
    have HI := Lib.hid hi2
    clear hi hi2 h1 h2
    go_enter Tryz.func140, Tryz.ntmps140
    go_wp2_with fail
    refine (HI.out _).mono ?_
    rintro e w' ⟨rfl, rfl⟩
    go_wp2_with fail
    go_ret3
    exact ⟨rfl, 0, rfl⟩
  · have hc : cutEq s = some (s.take k, s.drop (k + 1)) := by
      conv => lhs; rw [split_at h2]
      exact cutEq_at _ _ h3
    rw [hc]
    have hkl : k < s.length := (List.getElem?_eq_some_iff.1 h2).1
    have hi2 : ∀ w, Calls Tryz.prog 182 #[.string (bs s), .string { data := #[61] }] w fun e w' => e = .returned (.int .i64 k) ∧ w = w' := fun w => (hi w).mono fun _ _ ⟨g1, g2⟩ => ⟨by rw [g1, bs_data, h1], g2.symm⟩
    have HI := Lib.hid hi2
    have hs1 := fun w => slice_to (P := Tryz.prog) (t := 9) Tryz.underlying9 s k (by omega) w
    have hs2 := fun w => slice_from (P := Tryz.prog) (t := 9) Tryz.underlying9 s (k + 1) (by omega) w
    rw [show ((k + 1 : Nat) : Int) = (k : Int) + 1 by omega] at hs2
    have hkw : IntKind.i64.wrap ((k : Int) + 1) = (k : Int) + 1 := IntWalk.i64_in _ ⟨by omega, by omega⟩
    have hk1 : (0 : Int) ≤ (k : Int) + 1 := by omega
    clear hi hi2 h1 h2 h3 hc
    go_enter Tryz.func140, Tryz.ntmps140
    go_wp2_with fail
    refine (HI.out _).mono ?_
    rintro e w' ⟨rfl, rfl⟩
    go_wp2_with fail
    go_quiet (fail)
    go_wp2_with fail
    go_ret3
    exact ⟨rfl, _, rfl⟩

set_option maxHeartbeats 1000000 in
theorem cut1_any (s : List UInt8) (w : World) (hs : s.length ≤ 1000000000000) :
    Calls Tryz.prog 101 #[.string (bs s), .string { data := #[61] }] w (Quiet w (match cutEq s with | some p => .tuple #[.string (bs p.1), .string (bs p.2), .bool true] | none => .tuple #[.string (bs s), .string (bs []), .bool false])) := by
  have hl := liteCut_any s w hs
  rcases hc : cutEq s with _ | ⟨a, b⟩
  · rw [hc] at hl
    have HL := Lib.hid hl
    clear hl hc
    go_enter Tryz.func101, Tryz.ntmps101
    go_wp2_with fail
    refine HL.out.mono ?_
    rintro e w' ⟨rfl, n, rfl⟩
    go_wp2_with fail
    go_ret3
    exact ⟨rfl, _, rfl⟩
  · rw [hc] at hl
    have HL := Lib.hid hl
    clear hl hc
    go_enter Tryz.func101, Tryz.ntmps101
    go_wp2_with fail
    refine HL.out.mono ?_
    rintro e w' ⟨rfl, n, rfl⟩
    go_wp2_with fail
    go_ret3
    exact ⟨rfl, _, rfl⟩

structure SpB (w : World) (B : Nat) (rest : List UInt8) : Prop where
  b0 : Blk w B 9 #[.string (bs rest)]
  b1 : Blk w (B + 1) 9 #[.string { data := #[44] }]
  b2 : Blk w (B + 2) 3 #[.int .i64 0]
theorem SpB.below {w w' : World} {B : Nat} {rest : List UInt8} (h : SpB w B rest) (hb : Below w.heap.size w w') : SpB w' B rest := ⟨h.b0.below hb, h.b1.below hb, h.b2.below hb⟩
theorem SpB.kept {w w' : World} {B : Nat} {rest : List UInt8} (h : SpB w B rest) (hb : ∀ k, B ≤ k → k < B + 3 → w'.heap[k]? = w.heap[k]?) : SpB w' B rest := ⟨(hb B (by omega) (by omega)).trans h.b0, (hb (B + 1) (by omega) (by omega)).trans h.b1, (hb (B + 2) (by omega) (by omega)).trans h.b2⟩
theorem SpB.set {w : World} {B : Nat} {rest : List UInt8} (h : SpB w B rest) (r : List UInt8) : SpB (w.setCell ⟨B, 0, none⟩ (.string (bs r))) B r :=
  ⟨h.b0.set 0 _, h.b1.other (by omega) 0 _, h.b2.other (by omega) 0 _⟩
def leftOf (w : World) (B : Nat) : Nat := match w.cell? ⟨B, 0, none⟩ with | some (.string z) => z.size | _ => 0
theorem leftOf_eq {w : World} {B : Nat} {rest : List UInt8} (h : SpB w B rest) : leftOf w B = rest.length := by
  unfold leftOf
  rw [h.b0.cell (i := 0) rfl]
  rfl

set_option maxHeartbeats 1000000 in
set_option maxRecDepth 10000 in
theorem split_seq (s : List UInt8) (hs : s.length ≤ 1000000000000) (n : Nat) (hn : 1 ≤ n) (B : Nat) (w : World) (h : SpB w B s) :
    SeqB Fence.wide n Tryz.prog 179 #[.pointer (some ⟨B + 1, 0, none⟩), .pointer (some ⟨B, 0, none⟩), .pointer (some ⟨B + 2, 0, none⟩)] (fun x : { x : List UInt8 // x.length ≤ s.length } => #[.string (bs x.1)]) B (B + 3) (fun xs => xs.map (·.1) = commas s) (fun pre => pre.map (·.1) <+: commas s) (commas s).length w := fun l J Jx W hW hJs hY h0 => by
  have h := h.below hW
  have hi := fun (r : List UInt8) w => Tryz.strings_Index_one (bs r) 44 w
  have HI := Lib.hid hi
  clear hi
  refine callsIn_of_wp Tryz.func179 rfl trivial ?_ rfl
  simp only [Tryz.ntmps179, List.size_toArray, List.length_cons, List.length_nil, Nat.reduceAdd, Nat.reduceSub, Array.replicate_succ, Array.replicate_zero, List.push_toArray, List.append_toArray, List.nil_append, List.cons_append]
  have c1 := h.b1.cell (i := 0) rfl
  gi_wp2
  clear c1
  gi_loopw [7] (fun _ wr => ∃ (pre : List { x : List UInt8 // x.length ≤ s.length }) (rest : List UInt8), Hid (commas s = pre.map (·.1) ++ commas rest) ∧ rest.length ≤ s.length ∧ Hid (SpB wr B rest) ∧ Hid (J pre wr)) (fun _ wr => leftOf wr B)
  case atStart => exact ⟨[], s, Lib.hid rfl, Nat.le_refl _, Lib.hid h, Lib.hid h0⟩
  case round =>
    obtain ⟨pre, rest, hc, hrl, hsp, hJ⟩ := hrel
    have a0 := hsp.out.b0.cell (i := 0) rfl
    have a1 := hsp.out.b1.cell (i := 0) rfl
    have a2 := hsp.out.b2.cell (i := 0) rfl
    rcases first_of rest 44 with ⟨h1, h2⟩ | ⟨k, h1, h2, h3⟩
    · have hr := commas_none rest h2
      have hI2 : ∀ w, CallsIn Fence.wide (n - 1) Tryz.prog 181 #[.string (bs rest), .string { data := #[44] }] w fun e w' => e = .returned (.int .i64 (-1)) ∧ w = w' := fun w => callsIn_wide.2 ((HI.out rest w).mono fun _ _ ⟨g1, g2⟩ => ⟨by rw [g1, bs_data, h1], g2.symm⟩)
      have hlen : pre.length < (commas s).length := by rw [hc.out, hr]; simp
      obtain ⟨fn, tmps, assign, body, hy, hR⟩ := hY pre ⟨rest, hrl⟩ wr hJ.out hlen
      have HR := Lib.hid hR
      have HI3 := Lib.hid hI2
      have HC := Lib.hid (show commas s = (pre ++ [(⟨rest, hrl⟩ : { x : List UInt8 // x.length ≤ s.length })]).map (·.1) by rw [hc.out, hr]; simp)
      clear h1 h2 hr hlen hI2 hR
      gi_wp2_with (refine ⟨trivial, ?_⟩; gi_at_call 181; refine (HI3.out _).mono ?_; rintro e w' ⟨rfl, rfl⟩)
      refine HR.out.mono ?_
      rintro e w' (⟨rfl, hJ1, hk1⟩ | ⟨rfl, hJx⟩)
      · have HJ1 := Lib.hid hJ1
        clear hJ1 hk1
        gi_wp2
        go_end0
        exact ⟨⟨_, rfl⟩, .inl ⟨_, HC.out.symm, HJ1.out⟩⟩
      · have HJ1 := Lib.hid hJx
        clear hJx
        gi_wp2
        go_end0
        exact ⟨⟨_, rfl⟩, .inr ⟨_, by rw [HC.out]; exact List.prefix_refl _, HJ1.out⟩⟩
    · have hkl : k < rest.length := (List.getElem?_eq_some_iff.1 h2).1
      have hr : commas rest = rest.take k :: commas (rest.drop (k + 1)) := by
        conv => lhs; rw [split_at h2]
        exact commas_at _ _ h3
      have hI2 : ∀ w, CallsIn Fence.wide (n - 1) Tryz.prog 181 #[.string (bs rest), .string { data := #[44] }] w fun e w' => e = .returned (.int .i64 k) ∧ w = w' := fun w => callsIn_wide.2 ((HI.out rest w).mono fun _ _ ⟨g1, g2⟩ => ⟨by rw [g1, bs_data, h1], g2.symm⟩)
      have hlen : pre.length < (commas s).length := by rw [hc.out, hr]; simp
      obtain ⟨fn, tmps, assign, body, hy, hR⟩ := hY pre ⟨rest.take k, by rw [List.length_take]; omega⟩ wr hJ.out hlen
      have HR := Lib.hid hR
      have HI3 := Lib.hid hI2
      have HC := Lib.hid (show commas s = (pre ++ [(⟨rest.take k, by rw [List.length_take]; omega⟩ : { x : List UInt8 // x.length ≤ s.length })]).map (·.1) ++ commas (rest.drop (k + 1)) by rw [hc.out, hr]; simp)
      have hs1 := fun w => slice_to (P := Tryz.prog) (t := 9) Tryz.underlying9 rest k (by omega) w
      have hs2 := fun w => slice_from (P := Tryz.prog) (t := 9) Tryz.underlying9 rest (k + 1) (by omega) w
      rw [show ((k + 1 : Nat) : Int) = (k : Int) + 1 by omega] at hs2
      have HS2 := Lib.hid hs2
      clear h1 h2 h3 hr hlen hI2 hR hs2
      gi_wp2_with (refine ⟨trivial, ?_⟩; gi_at_call 181; refine (HI3.out _).mono ?_; rintro e w' ⟨rfl, rfl⟩)
      refine HR.out.mono ?_
      rintro e w' (⟨rfl, hJ1, hk1⟩ | ⟨rfl, hJx⟩)
      · have hsp1 := hsp.out.kept hk1
        have HJ1 := Lib.hid (hJs _ _ (.string (bs (rest.drop (k + 1)))) hJ1)
        have HSP := Lib.hid (hsp1.set (rest.drop (k + 1)))
        have a0' := hsp1.b0.cell (i := 0) rfl
        have f0' := hsp1.b0.free 0
        have a1' := hsp1.b1.cell (i := 0) rfl
        have hs2 := HS2.out
        have HLO := Lib.hid (leftOf_eq hsp.out)
        clear hJ1 hk1 hsp1 a0 a1 a2
        gi_wp2
        go_roundw
        case rel => exact ⟨_, _, HC, by rw [List.length_drop]; omega, HSP, HJ1⟩
        case measure =>
          rw [leftOf_eq HSP.out, HLO.out, List.length_drop]
          omega
      · have HJ1 := Lib.hid hJx
        clear hJx
        gi_wp2
        refine bodyPost_ret (results_none rfl _ _ _) rfl ?_
        exact ⟨⟨_, rfl⟩, .inr ⟨_, by rw [HC.out]; exact List.prefix_append _ _, HJ1.out⟩⟩

set_option maxHeartbeats 1000000 in
theorem splitSeq_any (s : List UInt8) (w : World) :
    Calls Tryz.prog 100 #[.string (bs s), .string { data := #[44] }] w fun e w' => e = .returned (.func (.func 179) #[] #[.pointer (some ⟨w.heap.size + 1, 0, none⟩), .pointer (some ⟨w.heap.size, 0, none⟩), .pointer (some ⟨w.heap.size + 2, 0, none⟩)]) ∧
      w' = ((w.alloc (.cells #[.string (bs s)] 9)).alloc (.cells #[.string { data := #[44] }] 9)).alloc (.cells #[.int .i64 0] 3) := by
  have h1 : ∀ w, Calls Tryz.prog 139 #[.string (bs s), .string { data := #[44] }, .int .i64 0] w fun e w' => e = .returned (.func (.func 179) #[] #[.pointer (some ⟨w.heap.size + 1, 0, none⟩), .pointer (some ⟨w.heap.size, 0, none⟩), .pointer (some ⟨w.heap.size + 2, 0, none⟩)]) ∧
      w' = ((w.alloc (.cells #[.string (bs s)] 9)).alloc (.cells #[.string { data := #[44] }] 9)).alloc (.cells #[.int .i64 0] 3) := by
    intro w
    go_enter Tryz.func139, Tryz.ntmps139
    go_wp2_with fail
    go_ret
    exact ⟨rfl, rfl⟩
  have H1 := Lib.hid h1
  clear h1
  go_enter Tryz.func100, Tryz.ntmps100
  go_wp2_with fail
  refine (H1.out _).mono ?_
  rintro e w' ⟨rfl, rfl⟩
  go_wp2_with fail
  go_ret
  exact ⟨rfl, rfl⟩

end Go.Proofs.YtnoebccoaeiakaaGreatDoor

namespace Go.Proofs.YtnoebccoaeiakaaGreatDoor
open Go.RowKit Go.Bar Go.Bar.Leb Go.Bar.Lab
attribute [local go_sem] Oper.semAt_some

theorem pairsOf_snoc : ∀ (l : List (List UInt8)) (x : List UInt8) (ps : List Pr) (p : Pr), pairsOf l = some ps → cutEq x = some p → pairsOf (l ++ [x]) = some (ps ++ [p])
  | [], x, ps, p, h, hx => by
    simp [pairsOf] at h
    subst h
    simp [pairsOf, hx]
  | y :: l, x, ps, p, h, hx => by
    unfold pairsOf at h
    rw [List.cons_append, pairsOf]
    rcases hy : cutEq y with _ | q
    · rw [hy] at h; simp at h
    · rw [hy] at h
      simp only at h ⊢
      rcases hl : pairsOf l with _ | qs
      · rw [hl] at h; simp at h
      · rw [hl] at h
        simp at h
        subst h
        rw [pairsOf_snoc l x qs p hl hx]
        rfl
theorem pairsOf_mem : ∀ (l : List (List UInt8)) (x : List UInt8), x ∈ l → cutEq x = none → pairsOf l = none
  | [], _, h, _ => by cases h
  | y :: l, x, h, hx => by
    unfold pairsOf
    rcases List.mem_cons.1 h with rfl | h
    · rw [hx]
    · split
      · rfl
      · rw [pairsOf_mem l x h hx]; rfl
theorem cutEq_len : ∀ (x : List UInt8) (p : Pr), cutEq x = some p → p.1.length ≤ x.length ∧ p.2.length ≤ x.length
  | [], _, h => by simp [cutEq] at h
  | c :: x, p, h => by
    unfold cutEq at h
    split at h
    · injection h with h; subst h; simp
    · rcases hx : cutEq x with _ | q
      · rw [hx] at h; simp at h
      · rw [hx] at h
        simp at h
        subst h
        have := cutEq_len x q hx
        simp
        omega
theorem pairsOf_length : ∀ (l : List (List UInt8)) (ps : List Pr), pairsOf l = some ps → ps.length = l.length
  | [], ps, h => by simp [pairsOf] at h; subst h; rfl
  | y :: l, ps, h => by
    unfold pairsOf at h
    rcases hy : cutEq y with _ | q
    · rw [hy] at h; simp at h
    · rw [hy] at h
      rcases hl : pairsOf l with _ | qs
      · rw [hl] at h; simp at h
      · rw [hl] at h
        simp at h
        subst h
        simp [pairsOf_length l qs hl]
theorem commas_length : ∀ s, (commas s).length ≤ s.length + 1
  | [] => by simp [commas]
  | c :: r => by
    have := commas_length r
    unfold commas
    split
    · simp; omega
    · split
      · simp
      · rename_i h t he
        rw [he] at this
        simp at this ⊢
        omega

theorem _root_.Go.KeepsOthers.drewN (W : World) (n : Nat) : KeepsOthers W (W.drewN n) := ⟨Nat.le_refl _, fun _ _ h _ => h⟩

theorem _root_.Go.Bar.Blk.new_at {w : World} {cur : Array Value} {T : TypeId} {k : Nat} (h : w.heap.size = k) : Blk (w.alloc (.cells cur T)) k T cur := h ▸ Blk.new w cur T

abbrev Part (s : List UInt8) := { x : List UInt8 // x.length ≤ s.length }
structure SpA (w : World) (B : Nat) : Prop where
  b0 : ∃ cur, Blk w B 9 cur
  b1 : ∃ cur, Blk w (B + 1) 9 cur
  b2 : ∃ cur, Blk w (B + 2) 3 cur
theorem SpA.turned {w w' : World} {B : Nat} {row : Option Nat} (h : SpA w B) (hg : w.grownBy w' row) (hr : ∀ r, row = some r → ∃ o : Obj, w.heap[r]? = some o ∧ o.isCells = false) : SpA w' B := by
  obtain ⟨⟨a, ha⟩, ⟨b, hb⟩, c, hc⟩ := h
  exact ⟨⟨a, ha.turned hg hr⟩, ⟨b, hb.turned hg hr⟩, c, hc.turned hg hr⟩
theorem SpA.set {w : World} {B : Nat} (h : SpA w B) (u : Value) : SpA (w.setCell ⟨B, 0, none⟩ u) B := by
  obtain ⟨⟨a, ha⟩, ⟨b, hb⟩, c, hc⟩ := h
  exact ⟨⟨_, ha.set 0 u⟩, ⟨b, hb.other (by omega) 0 u⟩, c, hc.other (by omega) 0 u⟩
theorem SpA.other {w : World} {B M : Nat} (h : SpA w B) (hM : M < B) (u : Value) : SpA (w.setCell ⟨M, 0, none⟩ u) B := by
  obtain ⟨⟨a, ha⟩, ⟨b, hb⟩, c, hc⟩ := h
  exact ⟨⟨_, ha.other (by omega) 0 u⟩, ⟨b, hb.other (by omega) 0 u⟩, c, hc.other (by omega) 0 u⟩
theorem SpA.ap {w w' : World} {B : Nat} (h : SpA w B) {sz n : Nat} {v : Value} {xs : List Value} (hb : Buf w 155 sz v n xs) (ha : Ap w w' sz v) : SpA w' B ∧ ∀ k, B ≤ k → k < B + 3 → w'.heap[k]? = w.heap[k]? := by
  obtain ⟨⟨a, h0⟩, ⟨b, h1⟩, c, h2⟩ := h
  have g0 := h0.ap hb ha (by decide)
  have g1 := h1.ap hb ha (by decide)
  have g2 := h2.ap hb ha (by decide)
  refine ⟨⟨⟨_, g0⟩, ⟨_, g1⟩, _, g2⟩, fun k k1 k2 => ?_⟩
  have : k = B ∨ k = B + 1 ∨ k = B + 2 := by omega
  rcases this with rfl | rfl | rfl
  · exact Eq.trans g0 (Eq.symm h0)
  · exact Eq.trans g1 (Eq.symm h1)
  · exact Eq.trans g2 (Eq.symm h2)
theorem SpA.below {w w' : World} {B : Nat} (h : SpA w B) (hb : Below w.heap.size w w') : SpA w' B := by
  obtain ⟨⟨a, ha⟩, ⟨b, hb1⟩, c, hc⟩ := h
  exact ⟨⟨_, ha.below hb⟩, ⟨b, hb1.below hb⟩, c, hc.below hb⟩

theorem _root_.Go.Bar.Blk.put {w : World} {M D : Nat} {T : TypeId} {cur : Array Value} (h : Blk w M T cur) (hD : w.heap[D]? = some (.deferred (some []))) : Blk (w.putObj D (.deferred none)) M T cur :=
  h.turned (grownBy_putObj' w D _) (fun r e => by cases e; exact ⟨_, hD, rfl⟩)
theorem _root_.Go.Bar.NBuf.put {w0 w : World} {D : Nat} {e : TypeId} {sz n : Nat} {v : Value} {xs : List Value} (h : NBuf w0 w e sz v n xs) (hD : w.heap[D]? = some (.deferred (some []))) (hle : w0.heap.size ≤ D) : NBuf w0 (w.putObj D (.deferred none)) e sz v n xs :=
  ⟨h.buf.turned (grownBy_putObj' w D _) (fun r e => by cases e; exact ⟨_, hD, rfl⟩), h.below.grown (grownBy_putObj' w D _) h.below.size (fun k e => by cases e; exact hle), h.new⟩

structure PI (w W : World) (s : List UInt8) (pre : List (Part s)) (v : Value) (ps : List Pr) : Prop where
  eq : pairsOf (pre.map (·.1)) = some ps
  r0 : Blk W w.heap.size 93 #[.slice none 0 0]
  r1 : Blk W (w.heap.size + 1) 31 #[.int .i64 0]
  l : Blk W (w.heap.size + 1 + 1) 92 #[v]
  b : SpA W (w.heap.size + 1 + 1 + 1)
  buf : NBuf w W 155 2 v ps.length (pcs ps)
  sm : ∀ p ∈ ps, p.1.length ≤ s.length ∧ p.2.length ≤ s.length
structure PX (w W : World) (s : List UInt8) (pre : List (Part s)) : Prop where
  no : ∃ x ∈ pre.map (·.1), cutEq x = none
  r0 : Blk W w.heap.size 93 #[.slice none 0 0]
  r1 : Blk W (w.heap.size + 1) 31 #[.int .i64 3]
  bl : Below w.heap.size w W

def RetPs (w : World) (s : List UInt8) (e : Ending) (w' : World) : Prop := ∃ v, e = .returned (.tuple #[v, .int .i64 ((parse s).2 : Nat)]) ∧ NBuf w w' 155 2 v (parse s).1.length (pcs (parse s).1)

set_option maxHeartbeats 8000000 in
set_option maxRecDepth 10000 in
theorem parse_any6 (s : List UInt8) (w : World) (hs : s.length ≤ 100000) :
    Calls Tryz.prog 61 #[.string (bs s)] w (RetPs w s) := by
  have hcl := commas_length s
  refine (callsIn_wide (n := 9)).1 ?_
  refine callsIn_of_wp_marks Tryz.func61 rfl trivial ?_ rfl
  simp only [Tryz.ntmps61, List.size_toArray, List.length_cons, List.length_nil, Nat.reduceAdd, Nat.reduceSub, Array.replicate_succ, Array.replicate_zero, List.push_toArray, List.append_toArray, List.nil_append, List.cons_append]
  gi_wp2_with (refine ⟨trivial, ?_⟩; gi_at_call 100; refine (callsIn_wide.2 (splitSeq_any s _)).mono ?_; rintro e w' ⟨rfl, rfl⟩)
  refine wpIn_rangeFunc_ownB (w0 := ((w.alloc (.cells #[.slice none 0 0] 93)).alloc (.cells #[.int .i64 0] 31)).alloc (.cells #[.slice none 0 0] 92) |>.alloc (.cells #[.string (bs s)] 9) |>.alloc (.cells #[.string { data := #[44] }] 9) |>.alloc (.cells #[.int .i64 0] 3)) rfl (by omega) (gf := 179) (lb := #[.pointer (some ⟨w.heap.size + 1 + 1 + 1 + 1, 0, none⟩), .pointer (some ⟨w.heap.size + 1 + 1 + 1, 0, none⟩), .pointer (some ⟨w.heap.size + 1 + 1 + 1 + 2, 0, none⟩)]) rfl trivial (enters_of Tryz.func179 (by kernel_rfl) rfl)
    (lo := w.heap.size + 1 + 1 + 1) (up := w.heap.size + 1 + 1 + 1 + 3) (by omega) (split_seq s (by omega) _ (by omega) (w.heap.size + 1 + 1 + 1) _ ?boxes) (by simp) (Below.refl _ _) (fun _ => rfl)
    (fun pre W => ∃ v ps, PI w W s pre v ps) (fun c pre W => c = .ret ∧ PX w W s pre) ?own ?ownx ?store ?start
    (fun x => { tmps := #[.string (bs s), undef, .pointer (some ⟨w.heap.size, 0, none⟩), .pointer (some ⟨w.heap.size + 1, 0, none⟩), .pointer (some ⟨w.heap.size + 1 + 1, 0, none⟩), .string (bs x.1), undef, undef, undef, undef, undef, .string (bs s), .func (.func 179) #[] #[.pointer (some ⟨w.heap.size + 1 + 1 + 1 + 1, 0, none⟩), .pointer (some ⟨w.heap.size + 1 + 1 + 1, 0, none⟩), .pointer (some ⟨w.heap.size + 1 + 1 + 1 + 2, 0, none⟩)], .string (bs x.1), undef, undef, undef, undef, undef, undef, undef, undef, undef, undef, undef, undef, undef, undef, undef, undef, undef, undef, undef, undef, undef, undef, undef], defers := [] }) ?assign ?body ?done ?stop
  case boxes => exact ⟨((Blk.new_at (by simp)).alloc _).alloc _, (Blk.new_at (by simp)).alloc _, Blk.new_at (by simp)⟩
  case own =>
    rintro pre W W' row ⟨v, ps, h⟩ hg hr
    have hr2 : ∀ r, row = some r → ∃ o : Obj, W.heap[r]? = some o ∧ o.isCells = false := fun r e => (hr r e).2
    exact ⟨v, ps, h.eq, h.r0.turned hg hr2, h.r1.turned hg hr2, h.l.turned hg hr2, h.b.turned hg hr2, ⟨h.buf.buf.turned hg hr2, h.buf.below.grown hg h.buf.below.size (fun k e => by have := (hr k e).1; simp at this; omega), h.buf.new⟩, h.sm⟩
  case ownx =>
    rintro c pre W W' row ⟨hc, h⟩ hg hr
    have hr2 : ∀ r, row = some r → ∃ o : Obj, W.heap[r]? = some o ∧ o.isCells = false := fun r e => (hr r e).2
    exact ⟨hc, h.no, h.r0.turned hg hr2, h.r1.turned hg hr2, h.bl.grown hg h.bl.size (fun k e => by have := (hr k e).1; simp at this; omega)⟩
  case store =>
    rintro pre W u ⟨v, ps, h⟩
    obtain ⟨cur, hb⟩ := h.b.b0
    exact ⟨v, ps, h.eq, h.r0.other (by omega) 0 u, h.r1.other (by omega) 0 u, h.l.other (by omega) 0 u, h.b.set u, h.buf.set_ne hb (by decide) (by omega) 0 u, h.sm⟩
  case start =>
    exact ⟨.slice none 0 0, [], rfl, (((((Blk.new_at (by simp)).alloc _).alloc _).alloc _).alloc _).alloc _, ((((Blk.new_at (by simp)).alloc _).alloc _).alloc _).alloc _, (((Blk.new_at (by simp)).alloc _).alloc _).alloc _, ⟨⟨_, ((Blk.new_at (cur := #[.string (bs s)]) (by simp)).alloc _).alloc _⟩, ⟨_, (Blk.new_at (cur := #[.string { data := #[44] }]) (by simp)).alloc _⟩, _, Blk.new_at (cur := #[.int .i64 0]) (by simp)⟩, NBuf.nil ((((((below_alloc1 w _).alloc (by simp) _).alloc (by simp; omega) _).alloc (by simp; omega) _).alloc (by simp; omega) _).alloc (by simp; omega) _) _ _, by simp⟩
  case assign =>
    intro l x W K hK
    gi_wp2
    exact hK
  case body =>
    rintro l pre x W ⟨v, ps, hI⟩ hlt
    have r0 := hI.r0.cell (i := 0) rfl
    have q0 := hI.r0.free 0
    have r1 := hI.r1.cell (i := 0) rfl
    have q1 := hI.r1.free 0
    have r2 := hI.l.cell (i := 0) rfl
    have q2 := hI.l.free 0
    have hcut := fun W => cut1_any x.1 W (Nat.le_trans x.2 (by omega))
    rcases hc : cutEq x.1 with _ | p
    · rw [hc] at hcut
      have HC := Lib.hid hcut
      clear hcut
      gi_wp2_with (refine ⟨trivial, ?_⟩; gi_at_call 101; refine (CallsIn.inRound l (callsIn_wide.2 (HC.out _))).mono ?_; rintro e w' ⟨rfl, q, rfl⟩)
      refine ⟨((KeepsOthers.drewN _ _).trans (KeepsOthers.setCell _ _ _)).trans (KeepsOthers.setCell _ _ _), rfl, ⟨x.1, by simp, hc⟩, ((hI.r0.drewN q).set 0 _).other (by omega) 0 _, ((hI.r1.drewN q).other (by omega) 0 _).set 0 _, ?_⟩
      exact ((hI.buf.below.drewN' q).setCell (p := ⟨w.heap.size, 0, none⟩) (Nat.le_refl _) _).setCell (p := ⟨w.heap.size + 1, 0, none⟩) (Nat.le_succ _) _
    · rw [hc] at hcut
      have HC := Lib.hid hcut
      have hpl := pairsOf_length _ _ hI.eq
      rw [List.length_map] at hpl
      have hcp := cutEq_len _ _ hc
      have hx2 := x.2
      obtain ⟨bA, bc, rfl, hbc⟩ := hI.buf.buf.shape
      have HN := Lib.hid hI.buf
      have HI := Lib.hid hI
      have HPL := Lib.hid hpl
      have hps : ps.length ≤ 100001 := by omega
      clear hcut hI hpl
      gi_wp2_with (first
        | (refine ⟨trivial, ?_⟩; gi_at_call 101; refine (CallsIn.inRound l (callsIn_wide.2 (HC.out _))).mono ?_; rintro e w' ⟨rfl, q, rfl⟩)
        | (gi_at_builtin; refine wpListIn_append_nlit rfl (.tmp 22) (.tmp 26) 92 rfl pair_ty rfl (HN.out.drewN _) rfl (by simp) rfl (by simp [Value.oneCell']) (by simp only [maxLen]; omega) (by omega) ?_; intro v3 w3 hn3 ha3; have ha4 : Ap ((W.drewN q).alloc (.cells #[.string (bs p.1), .string (bs p.2)] 155)) w3 2 (.slice bA ps.length bc) := ha3; have hb4 := ((HN.out.drewN q).alloc (.cells #[.string (bs p.1), .string (bs p.2)] 155)).buf; have HL := Lib.hid (((HI.out.l.drewN q).alloc (.cells #[.string (bs p.1), .string (bs p.2)] 155)).ap hb4 ha4 (by decide)); have HA := Lib.hid ha4; have HB := Lib.hid hb4; have r3 := HL.out.cell (i := 0) rfl; have q3 := HL.out.free 0; have hn4 := hn3.buf.shape; obtain ⟨gA, gc, rfl, hgc⟩ := hn4; have HN3 := Lib.hid hn3; clear hn3 ha3 ha4 hb4))
      have hgr := (HI.out.b.below (((Below.refl _ _).drewN' q).alloc (Nat.le_refl _) (.cells #[.string (bs p.1), .string (bs p.2)] 155))).ap HB.out HA.out
      have hw3 : w.heap.size ≤ W.heap.size := HI.out.buf.below.size
      refine ⟨(((KeepsOthers.drewN W q).trans (KeepsOthers.alloc _ _)).trans HA.out.others).trans (KeepsOthers.setCell _ _ _), fun k k1 k2 => ?_, .slice gA (ps.length + 1) gc, ps ++ [p], ?_⟩
      · rw [Below.heap_setCell w3 ⟨w.heap.size + 1 + 1, 0, none⟩ _ k (by show k ≠ w.heap.size + 1 + 1; omega), hgr.2 k k1 k2]
        exact Lib.alloc_old (W.drewN q) _ k (by
          have h3 := HI.out.b.b2
          obtain ⟨cur, h3⟩ := h3
          have := h3.lt
          show k < W.heap.size
          omega)
      · refine ⟨?_, ?_, ?_, ?_, hgr.1.other (by omega) _, ?_, ?_⟩
        · rw [List.map_append]
          exact pairsOf_snoc _ _ _ _ HI.out.eq hc
        · exact (((HI.out.r0.drewN q).alloc _).ap HB.out HA.out (by decide)).other (by omega) 0 _
        · exact (((HI.out.r1.drewN q).alloc _).ap HB.out HA.out (by decide)).other (by omega) 0 _
        · exact HL.out.set 0 _
        · rw [pcs_snoc, List.length_append]
          exact HN3.out.set_ne HL.out (by decide) (by omega) 0 _
        · intro y hy
          rw [List.mem_append, List.mem_singleton] at hy
          rcases hy with hy | rfl
          · exact HI.out.sm y hy
          · exact ⟨Nat.le_trans hcp.1 hx2, Nat.le_trans hcp.2 hx2⟩
  case done =>
    rintro D xs W hD hS ⟨v, ps, hI⟩ hK
    have hpe := hI.eq
    rw [hS] at hpe
    have hps := pairsOf_length _ _ hpe
    have hD2 : w.heap.size + 6 ≤ D := by simpa using hD
    have hmk := make_any v ps W hI.buf.slice (by omega) (fun p hp => by have := (hI.sm p hp).1; omega)
    have hmk2 : Calls Tryz.prog 102 #[v] W fun e w' => ∃ v2 m, e = .returned (.tuple #[v2, .int .i64 (errL (sorted ps))]) ∧ m.Perm ps ∧ Asc m ∧ NBuf W w' 155 2 v2 m.length (pcs m) := hmk.mono fun _ _ ⟨v2, m, g1, g2, g3, g4⟩ => ⟨v2, m, by rw [g1]; unfold errL; rw [chk_any g2 g3], g2, g3, g4⟩
    have r2 := hI.l.cell (i := 0) rfl
    have hpa : parse s = if chk (sorted ps) = true then (sorted ps, 0) else ([], 12) := by unfold parse; rw [hpe]
    have HI := Lib.hid hI
    have HPA := Lib.hid hpa
    have HK := Lib.hid hK
    by_cases hck : chk (sorted ps) = true
    · rw [show errL (sorted ps) = 0 by unfold errL; rw [if_pos hck]] at hmk2
      have HM := Lib.hid hmk2
      have HCK := Lib.hid hck
      clear hmk hmk2 hI hpe hps hpa hck hK
      gi_wp2_with (refine ⟨trivial, ?_⟩; gi_at_call 102; refine (callsIn_wide.2 HM.out).mono ?_; rintro e W2 ⟨v2, m, rfl, hm1, hm2, hn⟩; obtain ⟨gA, gc, rfl, hgc⟩ := hn.buf.shape; have z0 := (HI.out.r0.below hn.below).cell (i := 0) rfl; have z0f := (HI.out.r0.below hn.below).free 0; have z1 := (HI.out.r1.below hn.below).cell (i := 0) rfl; have z1f := (HI.out.r1.below hn.below).free 0; have HN := Lib.hid hn; have HM1 := Lib.hid hm1; have HM2 := Lib.hid hm2; clear hn hm1 hm2)
      have hKD := HK.out
      have hDlt : D < W.heap.size := (Array.getElem?_eq_some_iff.1 hKD).1
      have y0 := ((HI.out.r0.below HN.out.below).set 0 (.slice gA m.length gc)).other (b := w.heap.size + 1) (by omega) 0 (.int .i64 0)
      have y1 := ((HI.out.r1.below HN.out.below).other (b := w.heap.size) (by omega) 0 (.slice gA m.length gc)).set 0 (.int .i64 0)
      have hm : m = sorted ps := sorted_of HM1.out HM2.out (ok_unlike (chk_iff.1 HCK.out))
      have hNF := ((HN.out.after HI.out.buf.below).set_ne (HI.out.r0.below HN.out.below) (by decide) (Nat.le_refl _) 0 (.slice gA m.length gc)).set_ne ((HI.out.r1.below HN.out.below).other (b := w.heap.size) (by omega) 0 (.slice gA m.length gc)) (by decide) (Nat.le_succ _) 0 (.int .i64 0)
      have hKF : ((W2.setCell ⟨w.heap.size, 0, none⟩ (.slice gA m.length gc)).setCell ⟨w.heap.size + 1, 0, none⟩ (.int .i64 0)).heap[D]? = some (.deferred (some [])) := by
        rw [Below.heap_setCell _ ⟨w.heap.size + 1, 0, none⟩ _ D (by show D ≠ w.heap.size + 1; omega), Below.heap_setCell _ ⟨w.heap.size, 0, none⟩ _ D (by show D ≠ w.heap.size; omega), HN.out.below.block D hDlt]
        exact hKD
      have x0 := (y0.put hKF).cell (i := 0) rfl
      have x1 := (y1.put hKF).cell (i := 0) rfl
      refine ⟨by simp, .inl ⟨_, _, rfl, run_takeDeferred hKF, ?_⟩⟩
      refine ⟨_, by simp [results, Tryz.results61, go_sem, x0, x1]; rfl, ?_⟩
      have hpr : parse s = (m, 0) := by rw [HPA.out, if_pos HCK.out, hm]
      refine ⟨.slice gA m.length gc, ?_, ?_⟩
      · rw [hpr]; rfl
      · rw [hpr]; exact hNF.put hKF (by omega)
    · rw [show errL (sorted ps) = 12 by unfold errL; rw [if_neg hck]] at hmk2
      have HM := Lib.hid hmk2
      have HCK := Lib.hid hck
      clear hmk hmk2 hI hpe hps hpa hck hK
      gi_wp2_with (refine ⟨trivial, ?_⟩; gi_at_call 102; refine (callsIn_wide.2 HM.out).mono ?_; rintro e W2 ⟨v2, m, rfl, hm1, hm2, hn⟩; obtain ⟨gA, gc, rfl, hgc⟩ := hn.buf.shape; have z0 := (HI.out.r0.below hn.below).cell (i := 0) rfl; have z0f := (HI.out.r0.below hn.below).free 0; have z1 := (HI.out.r1.below hn.below).cell (i := 0) rfl; have z1f := (HI.out.r1.below hn.below).free 0; have HN := Lib.hid hn; have HM1 := Lib.hid hm1; have HM2 := Lib.hid hm2; clear hn hm1 hm2)
      have hKD := HK.out
      have hDlt : D < W.heap.size := (Array.getElem?_eq_some_iff.1 hKD).1
      have y0 := ((HI.out.r0.below HN.out.below).set 0 (.slice none 0 0)).other (b := w.heap.size + 1) (by omega) 0 (.int .i64 12)
      have y1 := ((HI.out.r1.below HN.out.below).other (b := w.heap.size) (by omega) 0 (.slice none 0 0)).set 0 (.int .i64 12)
      have hNF := ((HN.out.after HI.out.buf.below).set_ne (HI.out.r0.below HN.out.below) (by decide) (Nat.le_refl _) 0 (.slice none 0 0)).set_ne ((HI.out.r1.below HN.out.below).other (b := w.heap.size) (by omega) 0 (.slice none 0 0)) (by decide) (Nat.le_succ _) 0 (.int .i64 12)
      have hKF : ((W2.setCell ⟨w.heap.size, 0, none⟩ (.slice none 0 0)).setCell ⟨w.heap.size + 1, 0, none⟩ (.int .i64 12)).heap[D]? = some (.deferred (some [])) := by
        rw [Below.heap_setCell _ ⟨w.heap.size + 1, 0, none⟩ _ D (by show D ≠ w.heap.size + 1; omega), Below.heap_setCell _ ⟨w.heap.size, 0, none⟩ _ D (by show D ≠ w.heap.size; omega), HN.out.below.block D hDlt]
        exact hKD
      have x0 := (y0.put hKF).cell (i := 0) rfl
      have x1 := (y1.put hKF).cell (i := 0) rfl
      refine ⟨by simp, .inl ⟨_, _, rfl, run_takeDeferred hKF, ?_⟩⟩
      refine ⟨_, by simp [results, Tryz.results61, go_sem, x0, x1]; rfl, ?_⟩
      have hpr : parse s = ([], 12) := by rw [HPA.out, if_neg HCK.out]
      refine ⟨.slice none 0 0, ?_, ?_⟩
      · rw [hpr]; rfl
      · rw [hpr]; exact NBuf.nil (hNF.put hKF (by omega)).below _ _
  case stop =>
    rintro D c pre W hD hSp ⟨rfl, hX⟩ hK
    have hD2 : w.heap.size + 6 ≤ D := by simpa using hD
    obtain ⟨x, hx1, hx2⟩ := hX.no
    have hpr : parse s = ([], 3) := by
      unfold parse
      rw [pairsOf_mem (commas s) x (hSp.subset hx1) hx2]
    have x0 := (hX.r0.put hK).cell (i := 0) rfl
    have x1 := (hX.r1.put hK).cell (i := 0) rfl
    gi_wp2
    refine ⟨by simp, .inl ⟨_, _, rfl, run_takeDeferred hK, ?_⟩⟩
    refine ⟨_, by simp [results, Tryz.results61, go_sem, x0, x1]; rfl, ?_⟩
    refine ⟨.slice none 0 0, ?_, ?_⟩
    · rw [hpr]; rfl
    · rw [hpr]; exact NBuf.nil (NBuf.put (NBuf.nil hX.bl 155 2) hK (by omega)).below _ _

end Go.Proofs.YtnoebccoaeiakaaGreatDoor

namespace Go.Proofs.YtnoebccoaeiakaaGreatDoor
open Go.RowKit Go.Bar Go.Bar.Leb Go.Bar.Lab

def cut42 (p : Pr) : Pr := (p.1.take 42, p.2.take 42)
def few (l : List Pr) : List Pr := (l.take 10).map cut42

end Go.Proofs.YtnoebccoaeiakaaGreatDoor

namespace Go.Proofs.YtnoebccoaeiakaaGreatDoor
open Go.RowKit Go.Bar Go.Bar.Leb Go.Bar.Lab

theorem rpair_ty : ElemTy Tryz.prog 59 156 (.agg #[.string ByteArray.empty, .string ByteArray.empty]) 2 32 :=
  ⟨Tryz.underlying59, info_parts (show (Tryz.prog.info? 156).map (fun i => (i.zero, i.size, i.bytes)) = some (some (.agg #[.string ByteArray.empty, .string ByteArray.empty]), 2, 32) by kernel_rfl), rfl⟩

def RetRN (w : World) (l : List Pr) (e : Ending) (w' : World) : Prop := ∃ v, e = .returned v ∧ NBuf w w' 156 2 v l.length (pcs l)

set_option maxHeartbeats 4000000 in
set_option maxRecDepth 10000 in
theorem told_any6 (v : Value) (l : List Pr) (w : World) (h : PsAt w v l) (hl : l.length ≤ 1000000) :
    Calls Tryz.prog 34 #[v] w (RetRN w l) := by
  obtain ⟨A, c, rfl, hlc, hcm⟩ := h.shape
  unfold maxLen at hcm
  have HN0 := Lib.hid (NBuf.lit0 (Below.refl w.heap.size w) 156 2)
  go_enter Tryz.func34, Tryz.ntmps34
  go_wp2_with fail
  go_loopw [9, 3] (fun i d wr => ∃ k : Nat, k ≤ l.length ∧ i = .int .i64 k ∧ Hid (NBuf w wr 156 2 d k (pcs (l.take k)))) (fun i _ _ => l.length - (intOf i).toNat)
  case atStart => exact ⟨0, Nat.zero_le _, rfl, HN0⟩
  case round =>
    obtain ⟨k, hk, rfl, hnb⟩ := hrel
    obtain ⟨fA, fc, rfl, hfc⟩ := hnb.out.buf.shape
    by_cases hgo : k < l.length
    · obtain ⟨p, hpk⟩ : ∃ p, l[k]? = some p := ⟨_, List.getElem?_eq_getElem hgo⟩
      obtain ⟨b, o, rfl, hbb, g1, g2⟩ := (h.below hnb.out.below).at_ hpk
      have HN1 := Lib.hid (hnb.out.alloc (.cells #[.string (bs p.1), .string (bs p.2)] 155))
      have HPK := Lib.hid hpk
      clear hpk
      go_wp2_with (at_builtin; refine wpList_append_nlit rfl (.tmp 13) (.tmp 15) 59 rfl rpair_ty rfl HN1.out rfl (by simp) rfl (by simp [Value.oneCell']) (by simp only [maxLen]; omega) (by omega) ?_; intro v3 w3 hn3 _; have HN3 := Lib.hid hn3; clear hn3)
      go_roundw
      case rel =>
        refine ⟨k + 1, by omega, by go_num, Lib.hid ?_⟩
        rw [List.take_add_one, HPK.out, pcs_append]
        exact HN3.out
      case measure => simp [intOf]; omega
    · obtain rfl : k = l.length := by omega
      have hn := hnb.out
      rw [List.take_length] at hn
      have HN := Lib.hid hn
      clear hn hgo
      go_wp2_with fail
      go_ret
      exact ⟨_, rfl, HN.out⟩

end Go.Proofs.YtnoebccoaeiakaaGreatDoor

namespace Go.Proofs.YtnoebccoaeiakaaGreatDoor
open Go.RowKit Go.Bar Go.Bar.Leb Go.Bar.Lab

theorem less_t {a b : List UInt8} (h : a < b) : Op.bytesLess a b = true := by rw [less_eq]; exact decide_eq_true h
theorem less_f {a b : List UInt8} (h : ¬ a < b) : Op.bytesLess a b = false := by rw [less_eq]; exact decide_eq_false h
theorem eqb_f {a b : List UInt8} (h : a ≠ b) : (a == b) = false := by rw [beq_eq_false_iff_ne]; exact h
theorem b_ne {a b : List UInt8} (h : a < b) : a ≠ b := fun he => by rw [he] at h; exact b_irrefl _ h

set_option maxHeartbeats 8000000 in
set_option maxRecDepth 10000 in
theorem rcompare_any (v v' : Value) (a b : List Pr) (w : World) (h : PsAt w v a) (h' : PsAt w v' b) :
    Calls Tryz.prog 48 #[v, v'] w (RetBelow w (.int .i64 (cmpL a b))) := by
  obtain ⟨A, c, rfl, hlc, hcm⟩ := h.shape
  obtain ⟨A', c', rfl, hlc', hcm'⟩ := h'.shape
  unfold maxLen at hcm hcm'
  obtain ⟨Z, hZ⟩ : ∃ Z, Z = cmpL a b := ⟨_, rfl⟩
  rw [← hZ]
  have HZ := Lib.hid hZ
  clear hZ
  go_enter Tryz.func48, Tryz.ntmps48
  go_wp2_with fail
  go_loopw [5] (fun i wr => ∃ k : Nat, k ≤ a.length ∧ k ≤ b.length ∧ i = .int .i64 k ∧ Below w.heap.size w wr ∧ Hid (Z = cmpL (a.drop k) (b.drop k))) (fun i _ => a.length - (intOf i).toNat)
  case atStart => exact ⟨0, Nat.zero_le _, Nat.zero_le _, rfl, Below.refl _ _, HZ⟩
  case round =>
    obtain ⟨k, hk, hkb, rfl, hbl, hz⟩ := hrel
    by_cases hgo : k < a.length
    · by_cases hgb : k < b.length
      · obtain ⟨p, hpk⟩ : ∃ p, a[k]? = some p := ⟨_, List.getElem?_eq_getElem hgo⟩
        obtain ⟨ba, oa, rfl, hba, g1, g2⟩ := (h.below hbl).at_ hpk
        obtain ⟨q, hqk⟩ : ∃ q, b[k]? = some q := ⟨_, List.getElem?_eq_getElem hgb⟩
        obtain ⟨bb, ob, rfl, hbb, f1, f2⟩ := (h'.below hbl).at_ hqk
        have hd1 : decide ((k : Int) < (a.length : Int)) = true := decide_eq_true (by omega)
        have hd2 : decide ((k : Int) < (b.length : Int)) = true := decide_eq_true (by omega)
        have HS := Lib.hid (cmpL_step hpk hqk)
        clear hpk hqk
        have hbl2 : Below w.heap.size w ((wr.alloc (.cells #[.string (bs p.1), .string (bs p.2)] 156)).alloc (.cells #[.string (bs q.1), .string (bs q.2)] 156)) := below_trans (below_trans hbl (below_alloc1 _ _)) (below_alloc1 _ _)
        by_cases hlt : p.1 < q.1
        · have hls := less_t hlt
          have HZ2 := Lib.hid (show Z = -1 by rw [hz.out, HS.out]; unfold cmpP cmpB; simp [hlt])
          clear hlt hz
          go_wp2_with fail
          go_ret
          exact ⟨by rw [HZ2.out]; rfl, hbl2⟩
        · have hls := less_f hlt
          by_cases hgt : q.1 < p.1
          · have heq : (p.1 == q.1) = false := eqb_f (fun h => b_ne hgt h.symm)
            have HZ2 := Lib.hid (show Z = 1 by rw [hz.out, HS.out]; unfold cmpP cmpB; simp [hlt, hgt])
            clear hlt hz hgt
            go_wp2_with fail
            go_ret
            exact ⟨by rw [HZ2.out]; rfl, hbl2⟩
          · have he := b_tri hlt hgt
            have heq : (p.1 == q.1) = true := by rw [beq_iff_eq]; exact he
            by_cases hlt2 : p.2 < q.2
            · have hls2 := less_t hlt2
              have HZ2 := Lib.hid (show Z = -1 by rw [hz.out, HS.out]; unfold cmpP cmpB; simp [hlt, hgt, hlt2])
              clear hlt hz hgt he hlt2
              go_wp2_with fail
              go_ret
              exact ⟨by rw [HZ2.out]; rfl, hbl2⟩
            · have hls2 := less_f hlt2
              by_cases hgt2 : q.2 < p.2
              · have heq2 : (p.2 == q.2) = false := eqb_f (fun h => b_ne hgt2 h.symm)
                have HZ2 := Lib.hid (show Z = 1 by rw [hz.out, HS.out]; unfold cmpP cmpB; simp [hlt, hgt, hlt2, hgt2])
                clear hlt hz hgt he hlt2 hgt2
                go_wp2_with fail
                go_ret
                exact ⟨by rw [HZ2.out]; rfl, hbl2⟩
              · have he2 := b_tri hlt2 hgt2
                have heq2 : (p.2 == q.2) = true := by rw [beq_iff_eq]; exact he2
                have HZ2 := Lib.hid (show Z = cmpL (a.drop (k + 1)) (b.drop (k + 1)) by rw [hz.out, HS.out]; unfold cmpP cmpB; simp [hlt, hgt, hlt2, hgt2])
                clear hlt hz hgt he hlt2 hgt2 he2
                go_wp2_with fail
                go_roundw
                case rel => exact ⟨k + 1, by omega, by omega, by go_num, hbl2, HZ2⟩
                case measure => simp [intOf]; omega
      · obtain rfl : k = b.length := by omega
        have hd1 : decide ((b.length : Int) < (a.length : Int)) = true := decide_eq_true (by omega)
        have hd2 : decide ((a.length : Int) < (b.length : Int)) = false := decide_eq_false (by omega)
        have HZ2 := Lib.hid (show Z = 1 by rw [hz.out, cmpL_right hgo (by omega)])
        clear hz
        go_wp2_with fail
        go_ret
        exact ⟨by rw [HZ2.out]; rfl, hbl⟩
    · obtain rfl : k = a.length := by omega
      have hz2 := hz.out
      rw [cmpL_end] at hz2
      by_cases hlt : a.length < b.length
      · rw [if_pos hlt] at hz2
        have HZ2 := Lib.hid hz2
        have hd : decide ((a.length : Int) < (b.length : Int)) = true := decide_eq_true (by omega)
        clear hz2 hz
        go_wp2_with fail
        go_ret
        exact ⟨by rw [HZ2.out]; rfl, hbl⟩
      · rw [if_neg hlt] at hz2
        have HZ2 := Lib.hid hz2
        have hd : decide ((a.length : Int) < (b.length : Int)) = false := decide_eq_false (by omega)
        have hd' : decide ((b.length : Int) < (a.length : Int)) = false := decide_eq_false (by omega)
        clear hz2 hz
        go_wp2_with fail
        go_ret
        exact ⟨by rw [HZ2.out]; rfl, hbl⟩

end Go.Proofs.YtnoebccoaeiakaaGreatDoor

namespace Go.Proofs.YtnoebccoaeiakaaGreatDoor
open Go.RowKit Go.Bar Go.Bar.Leb Go.Bar.Lab Go.Bar.Xor Go.Bar.Mrg

def Deep (B W0 w : World) (Tp : TypeId) (x : Rv) : Prop := (PsAt B (.slice x.la x.ls.length x.lc) x.ls ∨ NBuf W0 w Tp 2 (.slice x.la x.ls.length x.lc) x.ls.length (pcs x.ls)) ∧ (SmsAt B (.slice x.sa x.ss.length x.sc) x.ss ∨ NBuf W0 w 98 2 (.slice x.sa x.ss.length x.sc) x.ss.length (smc x.ss))
structure DTb (B W0 W w : World) (T Tp : TypeId) (v : Value) (t : List Rv) : Prop where
  n : NBuf W w T 2 v t.length (rcs t)
  b : Below W0.heap.size W0 W
  d : ∀ x ∈ t, Deep B W0 w Tp x
section
variable {B W0 W w w' : World} {T Tp : TypeId} {v : Value} {t : List Rv} {x : Rv}
theorem nbuf_ke {Ts : TypeId → Prop} {e : TypeId} {sz n : Nat} {u : Value} {xs : List Value} (h : NBuf W0 w e sz u n xs) (hk : Ke Ts w w') (hb : Below W0.heap.size W0 w') (h1 : ¬ Ts e) : NBuf W0 w' e sz u n xs := ⟨hk.buf h.buf h1, hb, h.new⟩
theorem Deep.ke {Ts : TypeId → Prop} (h : Deep B W0 w Tp x) (hk : Ke Ts w w') (hb : Below W0.heap.size W0 w') (h1 : ¬ Ts Tp) (h2 : ¬ Ts 98) : Deep B W0 w' Tp x := ⟨h.1.imp id fun h => nbuf_ke h hk hb h1, h.2.imp id fun h => nbuf_ke h hk hb h2⟩
theorem Deep.below (h : Deep B W0 w Tp x) (hb : Below w.heap.size w w') : Deep B W0 w' Tp x := ⟨h.1.imp id fun h => h.then_below hb, h.2.imp id fun h => h.then_below hb⟩
theorem Deep.rat (h : Deep B W0 w Tp x) (hb : Below B.heap.size B w) : RAt w x := ⟨h.1.elim (fun h => h.below hb) fun h => h.slice, h.2.elim (fun h => h.below hb) fun h => h.slice⟩
theorem Deep.of (h : RAt B x) (W0 w : World) (Tp : TypeId) : Deep B W0 w Tp x := ⟨.inl h.1, .inl h.2⟩
theorem Deep.after {W1 : World} (h : Deep B W0 w Tp x) (hb : Below W1.heap.size W1 W0) : Deep B W1 w Tp x := ⟨h.1.imp id fun h => h.after hb, h.2.imp id fun h => h.after hb⟩
theorem DTb.below (h : DTb B W0 W w T Tp v t) (hb : Below w.heap.size w w') : DTb B W0 W w' T Tp v t := ⟨h.n.then_below hb, h.b, fun x hx => (h.d x hx).below hb⟩
theorem DTb.after {W1 : World} (h : DTb B W0 W w T Tp v t) (hb : Below W1.heap.size W1 W) (h0 : Below W0.heap.size W0 W1) : DTb B W0 W1 w T Tp v t := ⟨h.n.after hb, h0, h.d⟩
theorem DTb.nil (hb : Below W.heap.size W w) (h0 : Below W0.heap.size W0 W) (T Tp : TypeId) : DTb B W0 W w T Tp (.slice none 0 0) [] := ⟨NBuf.nil hb _ _, h0, fun x hx => by cases hx⟩
theorem DTb.snoc {wa w2 : World} {v2 : Value} (h : DTb B W0 W wa T Tp v t) (hx : Deep B W0 wa Tp x) (hn : NBuf W w2 T 2 v2 (t.length + 1) (rcs t ++ encR x)) (ha : Ap wa w2 2 v) (h1 : Tp ≠ T) (h2 : 98 ≠ T) : DTb B W0 W w2 T Tp v2 (t ++ [x]) := by
  have hk : Ke (fun U => U = T) wa w2 := Ke.of_ap h.n.buf ha rfl
  have hb := below_trans h.b hn.below
  refine ⟨?_, h.b, fun y hy => ?_⟩
  · rw [List.length_append, rcs_app]
    have e : rcs [x] = encR x := List.append_nil _
    rw [e]
    exact hn
  · rcases List.mem_append.1 hy with hy | hy
    · exact (h.d y hy).ke hk hb h1 h2
    · obtain rfl := List.mem_singleton.1 hy
      exact hx.ke hk hb h1 h2
end

end Go.Proofs.YtnoebccoaeiakaaGreatDoor

namespace Go.Bar
open Go.RowKit
theorem sortWorldK_other {α : Type} [Inhabited α] (enc : α → List Value) (k : Nat) {w : World} {b o : Nat} (m : Nat) (d : Array α) (os : Array Obj) {j : Nat} (hj : j ≠ b) (hlt : j < w.heap.size) : (Go.Proofs.sortWorldK enc k w b o m d os).heap[j]? = w.heap[j]? := by
  unfold Go.Proofs.sortWorldK Sort.putRowK
  rw [Sort.heap_grow_old _ _ (by rw [Sort.size_putRow, Sort.heap_ahead]; exact hlt)]
  unfold Sort.putRow Sort.mapBlock
  simp only [Sort.heap_ahead, Array.getElem?_modify]
  rw [if_neg (Ne.symm hj)]
theorem Buf.sorted_ne {α : Type} [Inhabited α] {enc : α → List Value} {k : Nat} {w : World} {e e' : TypeId} {sz n : Nat} {v : Value} {xs : List Value} (h : Buf w e sz v n xs) {b o : Nat} {cur : Array Value} {fr : Nat × Nat} (hb : w.heap[b]? = some (.cells cur e' fr)) (hne : e ≠ e') (m : Nat) (d : Array α) (os : Array Obj) : Buf (Go.Proofs.sortWorldK enc k w b o m d os) e sz v n xs := by
  obtain ⟨hl, A, c, rfl, hnc, hc, hv⟩ := h
  refine ⟨hl, A, c, rfl, hnc, hc, fun h0 => ?_⟩
  obtain ⟨b', o', cur', fr', rfl, hbk, hs, hf, hx⟩ := hv h0
  refine ⟨b', o', cur', fr', rfl, (sortWorldK_other enc k m d os (fun e2 => ?_) (Array.getElem?_eq_some_iff.1 hbk).1).trans hbk, hs, hf, hx⟩
  subst e2
  rw [hbk] at hb
  injection hb with hb
  injection hb with _ hb _
  exact hne hb
end Go.Bar
namespace Go.Proofs.YtnoebccoaeiakaaGreatDoor
open Go.RowKit Go.Bar Go.Bar.Leb Go.Bar.Lab Go.Bar.Xor Go.Bar.Mrg Go.Bar.Hd
attribute [local go_sem] Oper.semAt_some
theorem encR_one (x : Rv) : ∀ v ∈ encR x, v.oneCell' = true := fun v hv => by
  simp [encR] at hv
  rcases hv with rfl | rfl <;> rfl

set_option maxHeartbeats 1000000 in
theorem rowsCmp_any (x y : Rv) (w : World) (hx : PsAt w (.slice x.la x.ls.length x.lc) x.ls) (hy : PsAt w (.slice y.la y.ls.length y.lc) y.ls) :
    Calls Tryz.prog 70 #[.agg (encR x).toArray, .agg (encR y).toArray] w (RetGr w (.int .i64 (cmpL x.ls y.ls))) := by
  obtain ⟨xl, xs, xa, xc, xsa, xsc⟩ := x
  obtain ⟨yl, ys, ya, yc, ysa, ysc⟩ := y
  obtain ⟨Z, hZ⟩ : ∃ Z, cmpL xl yl = Z := ⟨_, rfl⟩
  have hb2 : Below w.heap.size w ((w.alloc (.cells #[.slice xa xl.length xc, .slice xsa xs.length xsc] 124)).alloc (.cells #[.slice ya yl.length yc, .slice ysa ys.length ysc] 124)) := below_trans (below_alloc1 w _) (below_alloc1 _ _)
  have hc := lcompareG_any (.slice xa xl.length xc) (.slice ya yl.length yc) xl yl _ (PsAt.below hx hb2) (PsAt.below hy hb2)
  simp only [hZ]
  rw [hZ] at hc
  have HC := Lib.hid hc
  clear hc hZ hx hy hb2
  simp only [encR, List.toArray]
  go_enter Tryz.func70, Tryz.ntmps70
  go_wp2_with fail
  refine HC.out.mono ?_
  rintro e w2 ⟨rfl, h2⟩
  go_wp2_with fail
  go_ret
  exact ⟨rfl, ((Gr.alloc w _).trans (Gr.alloc _ _)).trans h2⟩

def byL {t : List Rv} (x y : {r // r ∈ t}) : Int := cmpL x.1.ls y.1.ls
theorem byL_swo (t : List Rv) : Sort.SWO (Go.Proofs.ltOf (byL (t := t))) := by
  have hl : ∀ x y : {r // r ∈ t}, Go.Proofs.ltOf byL x y = decide (cmpL x.1.ls y.1.ls < 0) := fun _ _ => rfl
  refine ⟨fun x => ?_, fun x y z h1 h2 => ?_, fun x y z h1 h2 => ?_⟩
  · rw [hl]
    exact decide_eq_false (by rw [cmpL_zero.2 rfl]; omega)
  · rw [hl, decide_eq_true_eq] at *
    have h3 := cmpL_trans (Int.le_of_lt h1) (Int.le_of_lt h2)
    rcases Int.lt_or_eq_of_le h3 with h4 | h4
    · exact h4
    · have h5 := cmpL_zero.1 h4
      rw [h5] at h1
      have h6 := cmpL_neg z.1.ls y.1.ls
      omega
  · rw [hl, decide_eq_false_iff_not] at *
    have a1 := cmpL_neg x.1.ls y.1.ls
    have a2 := cmpL_neg y.1.ls z.1.ls
    have a3 := cmpL_neg x.1.ls z.1.ls
    have h3 := cmpL_trans (a := z.1.ls) (b := y.1.ls) (c := x.1.ls) (by omega) (by omega)
    omega

set_option maxHeartbeats 1000000 in
set_option maxRecDepth 100000 in
theorem sortNoneR_any (A : Option Addr) (c : Nat) (w : World) :
    Calls Tryz.prog 69 #[.slice A 0 c, .func (.func 70) #[] #[]] w fun e w' => e = .returned (.tuple #[]) ∧ w = w' := by
  have hi : ∀ w, Calls Tryz.prog 146 #[.slice A 0 c, .int .i64 0, .int .i64 0, .func (.func 70) #[] #[]] w fun e w' => e = .returned (.tuple #[]) ∧ w = w' := by
    intro w
    go_enter Tryz.func146, Tryz.ntmps146
    go_wp2_with fail
    go_loop [8] (fun i => i = .int .i64 1) (fun _ => 0)
    case atStart => rfl
    case round =>
      obtain rfl := hrel
      go_wp2_with fail
      go_end0
      exact ⟨rfl, rfl⟩
  have HI := Lib.hid hi
  clear hi
  have hq : ∀ (q : Int) (w : World), Calls Tryz.prog 104 #[.slice A 0 c, .int .i64 0, .int .i64 0, .int .i64 q, .func (.func 70) #[] #[]] w fun e w' => e = .returned (.tuple #[]) ∧ w = w' := by
    intro q w
    go_enter Tryz.func104, Tryz.ntmps104
    go_wp2_with fail
    go_loop [1, 2, 3, 10, 11] (fun a b l x y => a = .int .i64 0 ∧ b = .int .i64 0 ∧ l = .int .i64 q ∧ x = .bool true ∧ y = .bool true) (fun _ _ _ _ _ => 0)
    case atStart => exact ⟨rfl, rfl, rfl, rfl, rfl⟩
    case round =>
      obtain ⟨rfl, rfl, rfl, rfl, rfl⟩ := hrel
      go_wp2_with fail
      refine (HI.out _).mono ?_
      rintro e w' ⟨rfl, rfl⟩
      go_wp2_with fail
      refine bodyPost_ret (results_none rfl _ _ _) rfl ?_
      exact ⟨rfl, rfl⟩
  have HQ := Lib.hid hq
  clear hq
  have hb := Tryz.bits_Len 0 w (by omega) (by omega)
  have hb2 : Calls Tryz.prog 97 #[.int .u64 0] w fun e w' => (∃ q : Int, e = .returned (.int .i64 q)) ∧ w = w' := hb.mono fun _ _ ⟨h1, h2⟩ => ⟨⟨_, h1⟩, h2.symm⟩
  have HB := Lib.hid hb2
  clear hb hb2
  go_enter Tryz.func69, Tryz.ntmps69
  go_wp2_with fail
  refine HB.out.mono ?_
  rintro e w' ⟨⟨q, rfl⟩, rfl⟩
  go_wp2_with fail
  refine (HQ.out q _).mono ?_
  rintro e w' ⟨rfl, rfl⟩
  go_wp2_with fail
  go_end0
  exact ⟨rfl, rfl⟩

set_option maxHeartbeats 1000000 in
set_option maxRecDepth 10000 in
theorem sortRows_any (b o c : Nat) (t : List Rv) (w0 w : World) (h : DTb w0 w0 w0 w 124 155 (.slice (some ⟨b, o, none⟩) t.length c) t) (h0 : 0 < t.length) (hl : t.length ≤ 1000000) (hdp : ∀ x ∈ t, NBuf w0 w 155 2 (.slice x.la x.ls.length x.lc) x.ls.length (pcs x.ls) ∧ NBuf w0 w 98 2 (.slice x.sa x.ss.length x.sc) x.ss.length (smc x.ss)) :
    Calls Tryz.prog 69 #[.slice (some ⟨b, o, none⟩) t.length c, .func (.func 70) #[] #[]] w
      fun e w' => e = .returned (.tuple #[]) ∧ ∃ m : List Rv, m.Perm t ∧ m.Pairwise (fun x y => ¬ cmpL y.ls x.ls < 0) ∧ DTb w0 w0 w0 w' 124 155 (.slice (some ⟨b, o, none⟩) t.length c) m := by
  have hne : Nonempty {r // r ∈ t} := by
    cases t with
    | nil => exact absurd h0 (Nat.lt_irrefl _)
    | cons x r => exact ⟨⟨x, List.mem_cons_self⟩⟩
  have : Inhabited {r // r ∈ t} := Classical.inhabited_of_nonempty hne
  obtain ⟨enc, henc⟩ : ∃ enc : {r // r ∈ t} → List Value, enc = fun x => encR x.1 := ⟨_, rfl⟩
  have enc2 : ∀ x, (enc x).length = 2 := fun x => by rw [henc]; exact encR_two x.1
  have enc1 : ∀ x, ∀ v ∈ enc x, v.oneCell' = true := fun x => by rw [henc]; exact encR_one x.1
  obtain ⟨d0, hd0⟩ : ∃ d0 : Array {r // r ∈ t}, d0 = t.attach.toArray := ⟨_, rfl⟩
  have hsz : d0.size = t.length := by rw [hd0]; simp
  have hfl : ∀ d : List {r // r ∈ t}, d.flatMap enc = rcs (d.map (·.1)) := fun d => by
    rw [henc]
    unfold rcs
    rw [List.flatMap_map]
  have hd0l : d0.toList.map (·.1) = t := by rw [hd0]; simp
  have hbuf : Buf w 124 2 (.slice (some ⟨b, o, none⟩) t.length c) t.length (d0.toList.flatMap enc) := by rw [hfl, hd0l]; exact h.n.buf
  have hblk : b < w.heap.size := hbuf.lt h0 b rfl
  have hB : w0.heap.size ≤ b := h.n.new b rfl
  have eg : ∀ args w, (callFunc 70 args).run Tryz.prog w = .ok (.enter 70 args) w := enters_of Tryz.func70 (by kernel_rfl) rfl
  have hbuf' : Buf w 124 2 (.slice (some ⟨b, o, none⟩) d0.size c) d0.size (d0.toList.flatMap enc) := by rw [hsz]; exact hbuf
  have hH : Sort.HoldsK enc 2 w b o d0 := Buf.holdsK enc2 (d := d0) hbuf'
  obtain ⟨cur, fr, hcur⟩ : ∃ cur fr, w.heap[b]? = some (.cells cur 124 fr) := by
    obtain ⟨_, A, c', he, hnc, _, hv⟩ := hbuf
    injection he with e1 e2 e3
    subst e1; subst e3
    obtain ⟨b', o', cur, fr, e4, hbk, _⟩ := hv (by omega)
    injection e4 with e4
    injection e4 with e4 _ _
    subst e4
    exact ⟨cur, fr, hbk⟩
  have hcmp : Go.Proofs.CmpLays Tryz.prog 70 #[] enc 2 byL b o d0.size w := fun m os dk hdk x y => by
    have h1 := rowsCmp_any x.1 y.1 (Go.Proofs.sortWorldK enc 2 w b o m dk os) (SlAt.of_buf ((hdp x.1 x.2).1.buf.sorted_ne hcur (by decide) m dk os)) (SlAt.of_buf ((hdp y.1 y.2).1.buf.sorted_ne hcur (by decide) m dk os))
    rw [henc] at *
    exact h1
  have hlim : Lib.bitLen d0.size < 4611686018427387904 := Nat.lt_of_le_of_lt (Lib.bitLen_le d0.size 62 (by omega) (by omega)) (by omega)
  have hp := Go.Proofs.AnyQ.pdqsortCmpFunc_all (P := Tryz.prog) (ρ := Tryz.pdqR_ren) Tryz.pdqR 2 Tryz.isAgg124 Tryz.sizeOf124 enc byL 70 #[] (byL_swo t) b o c d0 w eg hcmp ⟨enc2, enc1, hH, hblk⟩ (d0.size + 1) 0 d0.size (Lib.bitLen d0.size) d0 w (by omega) rfl (Go.Proofs.SWK.start hH) (Nat.zero_le _) (Nat.le_refl _) (by omega) hlim (Or.inl rfl)
  have hs := Sort.pdq_sorts (Go.Proofs.ltOf byL) (byL_swo t) d0 0 d0.size (Lib.bitLen d0.size) true true (Nat.zero_le _) (Nat.le_refl _) (Or.inl rfl)
  have hq : Calls Tryz.prog 104 #[.slice (some ⟨b, o, none⟩) t.length c, .int .i64 0, .int .i64 t.length, .int .i64 (Lib.bitLen t.length : Nat), .func (.func 70) #[] #[]] w
      fun e w' => e = .returned (.tuple #[]) ∧ ∃ m : List Rv, m.Perm t ∧ m.Pairwise (fun x y => ¬ cmpL y.ls x.ls < 0) ∧ DTb w0 w0 w0 w' 124 155 (.slice (some ⟨b, o, none⟩) t.length c) m := by
    rw [hsz] at hp
    refine Calls.mono hp ?_
    rintro e w' ⟨h1, n, os, rfl⟩
    rw [← hsz]
    obtain ⟨p1, p2⟩ := permIn_list hs.1
    have p4 := sortedIn_list (d := Sort.pdq (Go.Proofs.ltOf byL) d0 0 d0.size (Lib.bitLen d0.size) true true) (by rw [p1]; exact hs.2)
    generalize Sort.pdq (Go.Proofs.ltOf byL) d0 0 d0.size (Lib.bitLen d0.size) true true = d at *
    have hbl := sortWorldK_below enc 2 n d os hB hblk (w := w) (o := o)
    have hperm : (d.toList.map (·.1)).Perm t := by
      have := p2.map (fun x : {r // r ∈ t} => x.1)
      rwa [hd0l] at this
    have hlen : (d.toList.map (·.1)).length = d0.size := by rw [List.length_map, Array.length_toList, p1]
    refine ⟨h1, d.toList.map (·.1), hperm, ?_, ⟨?_, h.b, fun x hx => ?_⟩⟩
    · rw [List.pairwise_map]
      exact p4.imp (fun hh => by
        have hh : decide (byL _ _ < 0) = false := hh
        rw [decide_eq_false_iff_not] at hh
        exact hh)
    · have hb5 := Buf.sortWorldK enc2 hbuf' n d p1 (by omega) os
      rw [hfl] at hb5
      rw [hlen]
      exact ⟨hb5, h.n.below.trans hbl, h.n.new⟩
    · have hx' := hdp x (hperm.mem_iff.1 hx)
      exact ⟨.inr ⟨hx'.1.buf.sorted_ne hcur (by decide) n d os, hx'.1.below.trans hbl, hx'.1.new⟩, .inr ⟨hx'.2.buf.sorted_ne hcur (by decide) n d os, hx'.2.below.trans hbl, hx'.2.new⟩⟩
  have HQ := Lib.hid hq
  have hb := Tryz.bits_Len (t.length : Int) w (by omega) (by omega)
  have hb2 : Calls Tryz.prog 97 #[.int .u64 t.length] w fun e w' => e = .returned (.int .i64 (Lib.bitLen t.length : Nat)) ∧ w = w' := hb.mono fun _ _ ⟨h1, h2⟩ => ⟨by rw [h1, Int.toNat_natCast], h2.symm⟩
  have HB := Lib.hid hb2
  have wr : IntKind.u64.wrap (t.length : Int) = t.length := by rw [IntKind.wrap_u64]; omega
  have WR := Lib.hid wr
  obtain ⟨Z, hZ⟩ : ∃ Z : Nat, Z = Lib.bitLen t.length := ⟨_, rfl⟩
  rw [← hZ] at HB HQ
  clear hb hb2 hq hp hs hH hcmp hlim hsz eg h wr hZ hcur hB hblk hbuf hbuf' hd0l hfl hd0 enc1 enc2 henc hdp this hne
  go_enter Tryz.func69, Tryz.ntmps69
  go_wp2_with fail
  refine HB.out.mono ?_
  rintro e w' ⟨rfl, rfl⟩
  go_wp2_with fail
  refine HQ.out.mono ?_
  rintro e w' ⟨rfl, hm⟩
  have HM := Lib.hid hm
  clear hm
  go_wp2_with fail
  go_end0
  exact ⟨rfl, HM.out⟩
end Go.Proofs.YtnoebccoaeiakaaGreatDoor
