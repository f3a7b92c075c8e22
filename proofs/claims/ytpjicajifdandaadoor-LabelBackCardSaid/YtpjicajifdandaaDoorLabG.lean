/-
  strings.Cut at '=' and strings.SplitSeq at ',': the walks; the iterator's contract.
-/
import Derived.Test.YtpjicajifdandaaDoorLabD
import Derived.Test.YtpjicajifdandaaDoorLib15
import Derived.Deep.QuietTactic
import Derived.BigQuiet
import Derived.IntWalk
import Derived.RangeFuncNested
import Derived.RangeFuncBound
import Derived.RangeFuncCalls
import Derived.Shelf.Abstract
import Derived.Shelf.AbstractIn
import Derived.Shelf.RegionOpen
import Derived.OwnWalkIn
import Derived.TacticsInMore
import Derived.LoopNIn
import Derived.LoopIn
namespace Go.Proofs.YtpjicajifdandaaDoor
open Go.RowKit Go.Bar Go.Bar.Leb Go.Bar.Lab

attribute [local go_sem] Oper.semAt_some

theorem first_of : ∀ (l : List UInt8) (c : UInt8), Lib.indexByte l c = -1 ∧ c ∉ l ∨ ∃ k : Nat, Lib.indexByte l c = k ∧ l[k]? = some c ∧ c ∉ l.take k
  | [], c => .inl ⟨rfl, by simp⟩
  | b :: l, c => by
    unfold Lib.indexByte
    by_cases h : b = c
    · subst h
      rw [if_pos (by simp)]
      exact .inr ⟨0, rfl, rfl, by simp⟩
    · rw [if_neg (by simpa using h)]
      rcases first_of l c with ⟨h1, h2⟩ | ⟨k, h1, h2, h3⟩
      · rw [h1]
        exact .inl ⟨rfl, by simp [h2]; exact fun e => h e.symm⟩
      · rw [h1, if_neg (by simp)]
        exact .inr ⟨k + 1, by omega, by simpa using h2, by simp [h3]; exact fun e => h e.symm⟩
theorem split_at {l : List UInt8} {k : Nat} {c : UInt8} (h : l[k]? = some c) : l = l.take k ++ c :: l.drop (k + 1) := by
  obtain ⟨hl, hq⟩ := List.getElem?_eq_some_iff.1 h
  rw [← hq, List.getElem_cons_drop, List.take_append_drop]

set_option maxHeartbeats 1000000 in
set_option maxRecDepth 10000 in
theorem liteCut_any (s : List UInt8) (w : World) (hs : s.length ≤ 1000000000000) :
    Calls Tryd.prog 59 #[.string (bs s), .string { data := #[61] }] w (Quiet w (match cutEq s with | some p => .tuple #[.string (bs p.1), .string (bs p.2), .bool true] | none => .tuple #[.string (bs s), .string (bs []), .bool false])) := by
  have hi := fun w => Tryd.stringslite_Index_one (bs s) 61 w
  rcases first_of s 61 with ⟨h1, h2⟩ | ⟨k, h1, h2, h3⟩
  · rw [cutEq_none s h2]
    have hi2 : ∀ w, Calls Tryd.prog 77 #[.string (bs s), .string { data := #[61] }] w fun e w' => e = .returned (.int .i64 (-1)) ∧ w = w' := fun w => (hi w).mono fun _ _ ⟨g1, g2⟩ => ⟨by rw [g1, bs_data, h1], g2.symm⟩
    have HI := Lib.hid hi2
    clear hi hi2 h1 h2
    go_enter Tryd.func59, Tryd.ntmps59
    go_wp2_with fail
    refine (HI.out _).mono ?_
    rintro e w' ⟨rfl, rfl⟩
    go_wp2_with fail
    go_ret3
    exact ⟨rfl, 0, rfl⟩
  · have hc : cutEq s = some (s.take k, s.drop (k + 1)) := by
      conv => lhs; rw [split_at h2]
      exact cutEq_at _ _ h3
    rw [hc]
    have hkl : k < s.length := (List.getElem?_eq_some_iff.1 h2).1
    have hi2 : ∀ w, Calls Tryd.prog 77 #[.string (bs s), .string { data := #[61] }] w fun e w' => e = .returned (.int .i64 k) ∧ w = w' := fun w => (hi w).mono fun _ _ ⟨g1, g2⟩ => ⟨by rw [g1, bs_data, h1], g2.symm⟩
    have HI := Lib.hid hi2
    have hs1 := fun w => slice_to (P := Tryd.prog) (t := 9) Tryd.underlying9 s k (by omega) w
    have hs2 := fun w => slice_from (P := Tryd.prog) (t := 9) Tryd.underlying9 s (k + 1) (by omega) w
    rw [show ((k + 1 : Nat) : Int) = (k : Int) + 1 by omega] at hs2
    have hkw : IntKind.i64.wrap ((k : Int) + 1) = (k : Int) + 1 := IntWalk.i64_in _ ⟨by omega, by omega⟩
    have hk1 : (0 : Int) ≤ (k : Int) + 1 := by omega
    clear hi hi2 h1 h2 h3 hc
    go_enter Tryd.func59, Tryd.ntmps59
    go_wp2_with fail
    refine (HI.out _).mono ?_
    rintro e w' ⟨rfl, rfl⟩
    go_wp2_with fail
    go_quiet (fail)
    go_wp2_with fail
    go_ret3
    exact ⟨rfl, _, rfl⟩

set_option maxHeartbeats 1000000 in
theorem cut1_any (s : List UInt8) (w : World) (hs : s.length ≤ 1000000000000) :
    Calls Tryd.prog 48 #[.string (bs s), .string { data := #[61] }] w (Quiet w (match cutEq s with | some p => .tuple #[.string (bs p.1), .string (bs p.2), .bool true] | none => .tuple #[.string (bs s), .string (bs []), .bool false])) := by
  have hl := liteCut_any s w hs
  rcases hc : cutEq s with _ | ⟨a, b⟩
  · rw [hc] at hl
    have HL := Lib.hid hl
    clear hl hc
    go_enter Tryd.func48, Tryd.ntmps48
    go_wp2_with fail
    refine HL.out.mono ?_
    rintro e w' ⟨rfl, n, rfl⟩
    go_wp2_with fail
    go_ret3
    exact ⟨rfl, _, rfl⟩
  · rw [hc] at hl
    have HL := Lib.hid hl
    clear hl hc
    go_enter Tryd.func48, Tryd.ntmps48
    go_wp2_with fail
    refine HL.out.mono ?_
    rintro e w' ⟨rfl, n, rfl⟩
    go_wp2_with fail
    go_ret3
    exact ⟨rfl, _, rfl⟩

/-- the iterator's boxes: the text that is left, the comma, nothing to be kept -/
structure SpB (w : World) (B : Nat) (rest : List UInt8) : Prop where
  b0 : Blk w B 9 #[.string (bs rest)]
  b1 : Blk w (B + 1) 9 #[.string { data := #[44] }]
  b2 : Blk w (B + 2) 3 #[.int .i64 0]
theorem SpB.below {w w' : World} {B : Nat} {rest : List UInt8} (h : SpB w B rest) (hb : Below w.heap.size w w') : SpB w' B rest := ⟨h.b0.below hb, h.b1.below hb, h.b2.below hb⟩
theorem SpB.kept {w w' : World} {B : Nat} {rest : List UInt8} (h : SpB w B rest) (hb : ∀ k, B ≤ k → k < B + 3 → w'.heap[k]? = w.heap[k]?) : SpB w' B rest := ⟨(hb B (by omega) (by omega)).trans h.b0, (hb (B + 1) (by omega) (by omega)).trans h.b1, (hb (B + 2) (by omega) (by omega)).trans h.b2⟩
theorem SpB.set {w : World} {B : Nat} {rest : List UInt8} (h : SpB w B rest) (r : List UInt8) : SpB (w.setCell ⟨B, 0, none⟩ (.string (bs r))) B r :=
  ⟨h.b0.set 0 _, h.b1.other (by omega) 0 _, h.b2.other (by omega) 0 _⟩
/-- how much is left -/
def leftOf (w : World) (B : Nat) : Nat := match w.cell? ⟨B, 0, none⟩ with | some (.string z) => z.size | _ => 0
theorem leftOf_eq {w : World} {B : Nat} {rest : List UInt8} (h : SpB w B rest) : leftOf w B = rest.length := by
  unfold leftOf
  rw [h.b0.cell (i := 0) rfl]
  rfl

set_option maxHeartbeats 1000000 in
set_option maxRecDepth 10000 in
theorem split_seq (s : List UInt8) (hs : s.length ≤ 1000000000000) (n : Nat) (hn : 1 ≤ n) (B : Nat) (w : World) (h : SpB w B s) :
    SeqB Fence.wide n Tryd.prog 74 #[.pointer (some ⟨B + 1, 0, none⟩), .pointer (some ⟨B, 0, none⟩), .pointer (some ⟨B + 2, 0, none⟩)] (fun x : { x : List UInt8 // x.length ≤ s.length } => #[.string (bs x.1)]) B (B + 3) (fun xs => xs.map (·.1) = commas s) (fun pre => pre.map (·.1) <+: commas s) (commas s).length w := fun l J Jx W hW hJs hY h0 => by
  have h := h.below hW
  have hi := fun (r : List UInt8) w => Tryd.strings_Index_one (bs r) 44 w
  have HI := Lib.hid hi
  clear hi
  refine callsIn_of_wp Tryd.func74 rfl trivial ?_ rfl
  simp only [Tryd.ntmps74, List.size_toArray, List.length_cons, List.length_nil, Nat.reduceAdd, Nat.reduceSub, Array.replicate_succ, Array.replicate_zero, List.push_toArray, List.append_toArray, List.nil_append, List.cons_append]
  have c1 := h.b1.cell (i := 0) rfl
  gi_wp2
  clear c1
  gi_loopw [7] (fun _ wr => ∃ (pre : List { x : List UInt8 // x.length ≤ s.length }) (rest : List UInt8), Hid (commas s = pre.map (·.1) ++ commas rest) ∧ rest.length ≤ s.length ∧ Hid (SpB wr B rest) ∧ Hid (J pre wr)) (fun _ wr => leftOf wr B)
  case atStart => exact ⟨[], s, Lib.hid rfl, Nat.le_refl _, Lib.hid h, Lib.hid h0⟩
  case round =>
    obtain ⟨pre, rest, hc, hrl, hsp, hJ⟩ := hrel
    have a0 := hsp.out.b0.cell (i := 0) rfl
    have a1 := hsp.out.b1.cell (i := 0) rfl
    have a2 := hsp.out.b2.cell (i := 0) rfl
    rcases first_of rest 44 with ⟨h1, h2⟩ | ⟨k, h1, h2, h3⟩
    · have hr := commas_none rest h2
      have hI2 : ∀ w, CallsIn Fence.wide (n - 1) Tryd.prog 76 #[.string (bs rest), .string { data := #[44] }] w fun e w' => e = .returned (.int .i64 (-1)) ∧ w = w' := fun w => callsIn_wide.2 ((HI.out rest w).mono fun _ _ ⟨g1, g2⟩ => ⟨by rw [g1, bs_data, h1], g2.symm⟩)
      have hlen : pre.length < (commas s).length := by rw [hc.out, hr]; simp
      obtain ⟨fn, tmps, assign, body, hy, hR⟩ := hY pre ⟨rest, hrl⟩ wr hJ.out hlen
      have HR := Lib.hid hR
      have HI3 := Lib.hid hI2
      have HC := Lib.hid (show commas s = (pre ++ [(⟨rest, hrl⟩ : { x : List UInt8 // x.length ≤ s.length })]).map (·.1) by rw [hc.out, hr]; simp)
      clear h1 h2 hr hlen hI2 hR
      gi_wp2_with (refine ⟨trivial, ?_⟩; gi_at_call 76; refine (HI3.out _).mono ?_; rintro e w' ⟨rfl, rfl⟩)
      refine HR.out.mono ?_
      rintro e w' (⟨rfl, hJ1, hk1⟩ | ⟨rfl, hJx⟩)
      · have HJ1 := Lib.hid hJ1
        clear hJ1 hk1
        gi_wp2
        go_end0
        exact ⟨⟨_, rfl⟩, .inl ⟨_, HC.out.symm, HJ1.out⟩⟩
      · have HJ1 := Lib.hid hJx
        clear hJx
        gi_wp2
        go_end0
        exact ⟨⟨_, rfl⟩, .inr ⟨_, by rw [HC.out]; exact List.prefix_refl _, HJ1.out⟩⟩
    · have hkl : k < rest.length := (List.getElem?_eq_some_iff.1 h2).1
      have hr : commas rest = rest.take k :: commas (rest.drop (k + 1)) := by
        conv => lhs; rw [split_at h2]
        exact commas_at _ _ h3
      have hI2 : ∀ w, CallsIn Fence.wide (n - 1) Tryd.prog 76 #[.string (bs rest), .string { data := #[44] }] w fun e w' => e = .returned (.int .i64 k) ∧ w = w' := fun w => callsIn_wide.2 ((HI.out rest w).mono fun _ _ ⟨g1, g2⟩ => ⟨by rw [g1, bs_data, h1], g2.symm⟩)
      have hlen : pre.length < (commas s).length := by rw [hc.out, hr]; simp
      obtain ⟨fn, tmps, assign, body, hy, hR⟩ := hY pre ⟨rest.take k, by rw [List.length_take]; omega⟩ wr hJ.out hlen
      have HR := Lib.hid hR
      have HI3 := Lib.hid hI2
      have HC := Lib.hid (show commas s = (pre ++ [(⟨rest.take k, by rw [List.length_take]; omega⟩ : { x : List UInt8 // x.length ≤ s.length })]).map (·.1) ++ commas (rest.drop (k + 1)) by rw [hc.out, hr]; simp)
      have hs1 := fun w => slice_to (P := Tryd.prog) (t := 9) Tryd.underlying9 rest k (by omega) w
      have hs2 := fun w => slice_from (P := Tryd.prog) (t := 9) Tryd.underlying9 rest (k + 1) (by omega) w
      rw [show ((k + 1 : Nat) : Int) = (k : Int) + 1 by omega] at hs2
      have HS2 := Lib.hid hs2
      clear h1 h2 h3 hr hlen hI2 hR hs2
      gi_wp2_with (refine ⟨trivial, ?_⟩; gi_at_call 76; refine (HI3.out _).mono ?_; rintro e w' ⟨rfl, rfl⟩)
      refine HR.out.mono ?_
      rintro e w' (⟨rfl, hJ1, hk1⟩ | ⟨rfl, hJx⟩)
      · have hsp1 := hsp.out.kept hk1
        have HJ1 := Lib.hid (hJs _ _ (.string (bs (rest.drop (k + 1)))) hJ1)
        have HSP := Lib.hid (hsp1.set (rest.drop (k + 1)))
        have a0' := hsp1.b0.cell (i := 0) rfl
        have f0' := hsp1.b0.free 0
        have a1' := hsp1.b1.cell (i := 0) rfl
        have hs2 := HS2.out
        have HLO := Lib.hid (leftOf_eq hsp.out)
        clear hJ1 hk1 hsp1 a0 a1 a2
        gi_wp2
        go_roundw
        case rel => exact ⟨_, _, HC, by rw [List.length_drop]; omega, HSP, HJ1⟩
        case measure =>
          rw [leftOf_eq HSP.out, HLO.out, List.length_drop]
          omega
      · have HJ1 := Lib.hid hJx
        clear hJx
        gi_wp2
        refine bodyPost_ret (results_none rfl _ _ _) rfl ?_
        exact ⟨⟨_, rfl⟩, .inr ⟨_, by rw [HC.out]; exact List.prefix_append _ _, HJ1.out⟩⟩

set_option maxHeartbeats 1000000 in
theorem splitSeq_any (s : List UInt8) (w : World) :
    Calls Tryd.prog 47 #[.string (bs s), .string { data := #[44] }] w fun e w' => e = .returned (.func (.func 74) #[] #[.pointer (some ⟨w.heap.size + 1, 0, none⟩), .pointer (some ⟨w.heap.size, 0, none⟩), .pointer (some ⟨w.heap.size + 2, 0, none⟩)]) ∧
      w' = ((w.alloc (.cells #[.string (bs s)] 9)).alloc (.cells #[.string { data := #[44] }] 9)).alloc (.cells #[.int .i64 0] 3) := by
  have h1 : ∀ w, Calls Tryd.prog 58 #[.string (bs s), .string { data := #[44] }, .int .i64 0] w fun e w' => e = .returned (.func (.func 74) #[] #[.pointer (some ⟨w.heap.size + 1, 0, none⟩), .pointer (some ⟨w.heap.size, 0, none⟩), .pointer (some ⟨w.heap.size + 2, 0, none⟩)]) ∧
      w' = ((w.alloc (.cells #[.string (bs s)] 9)).alloc (.cells #[.string { data := #[44] }] 9)).alloc (.cells #[.int .i64 0] 3) := by
    intro w
    go_enter Tryd.func58, Tryd.ntmps58
    go_wp2_with fail
    go_ret
    exact ⟨rfl, rfl⟩
  have H1 := Lib.hid h1
  clear h1
  go_enter Tryd.func47, Tryd.ntmps47
  go_wp2_with fail
  refine (H1.out _).mono ?_
  rintro e w' ⟨rfl, rfl⟩
  go_wp2_with fail
  go_ret
  exact ⟨rfl, rfl⟩

end Go.Proofs.YtpjicajifdandaaDoor
