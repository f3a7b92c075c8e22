/-
  Library 32: a select with a default at a region's head, in one goroutine, as a rule of the walk. Plain lemmas over any program; no condition.
-/
import Derived.Conc.LoneSelect
import Derived.Conc.LoneCalls
import Derived.Tactics

namespace Go.RowKit
open Go.Conc

section
variable {P : Program} {b : Frame} {a : Act} {k : List Item} {cs : List Frame} {w w' : World} {Q : Exit → Act → World → Prop}
theorem stepG_comm_any {ops : Array Oper} {i : Nat} {rest : List Nat} {o : Oper} {cases : Array CommCase} {blocking : Bool} {shape : CommShape} (ho : ops[i]? = some o) (hw : Region.wanted o (yielded ops a.tmps) = true)
    (hr : (execOp a.eval o).run P w = .ok (.comm cases blocking shape) w') :
    ∃ es, stepG P true (G (b.at a (.inRegion ops (i :: rest) :: k)) cs) w = .comm (G (b.at a (.inRegion ops (i :: rest) :: k)) cs) cases blocking shape w' es := by
  by_cases hk : b.kind = .early
  · refine ⟨seen P b.fn #[], ?_⟩
    rw [stepG_oper ho hw]
    simp [stepG.apply, hr, G, Frame.at, hk, GStep.after]
  · exact ⟨_, stepG_comm ho hw hk hr⟩
theorem wp_region_comm {id : Nat} {o : Oper} {l : List Oper} {cases : Array CommCase} {blocking : Bool} {shape : CommShape} {w₁ : World} {v : Value} (hg : o.guard = none)
    (hr : (execOp a.eval o).run P w = .ok (.comm cases blocking shape) w₁)
    (hs : ∀ (fr : Frame) (cs : List Frame) (es : Array Event), stepG P true (G fr cs) w = .comm (G fr cs) cases blocking shape w₁ es → step P (solo (G fr cs) w) = .next (solo (G (fr.finish v) cs) w'))
    (h : wpList P (o :: l).toArray Q l (a.put o.dst v) w') : (Code.region id (o :: l).toArray false).wp P Q a w := by
  intro b k cs
  have h2 : wpOps P (o :: l).toArray Q (List.range' 1 l.length) (a.put o.dst v) w' := by
    rw [wpOps_eq_wpList l 1 (fun j => by simp [Nat.add_comm 1 j])]; exact h
  obtain ⟨e, a', w'', q, harr⟩ := wp_ops _ _ _ h2 b k cs
  have e1 : List.range (o :: l).toArray.size = 0 :: List.range' 1 l.length := by
    rw [List.range_eq_range', List.size_toArray, List.length_cons, List.range'_succ]
  have h3 : step P (lone (b.at a (.inRegion (o :: l).toArray (List.range (o :: l).toArray.size) :: k)) cs w) = .next (lone (b.at (a.put o.dst v) (.inRegion (o :: l).toArray (List.range' 1 l.length) :: k)) cs w') := by
    rw [e1]
    have ho : (o :: l).toArray[0]? = some o := by simp
    obtain ⟨es, hc⟩ := stepG_comm_any (P := P) (b := b) (a := a) (k := k) (cs := cs) (rest := List.range' 1 l.length) ho (by simp [Region.wanted, hg]) hr
    have := hs _ _ _ hc
    rw [Frame.finish_at, ho] at this
    exact this
  exact ⟨e, a', w'', q, .of_steps (.one step_region) (.of_steps (.one h3) harr)⟩
theorem wp_region_sel_recv {id : Nat} {o : Oper} {l : List Oper} {ch : Operand} {t : TypeId} {c cap s r : Nat} {buf : Array Value} {closed tm : Bool} (hg : o.guard = none) (ho : o.op = .select #[{ chan := ch, send := none, elem := t }] false)
    (hz : ∃ z, (zeroValue t).run P w = .ok z w) (hch : a.eval ch = .chan (some c)) (hc : w.heap[c]? = some (.chan cap buf closed s r tm)) (hsome : 0 < buf.size)
    (h : wpList P (o :: l).toArray Q l (a.put o.dst (.tuple #[goInt 0, .bool true, buf.getD 0 undef])) (w.setChan c cap (buf.extract 1 buf.size) closed s (r + 1) tm)) : (Code.region id (o :: l).toArray false).wp P Q a w := by
  obtain ⟨z, hz⟩ := hz
  refine wp_region_comm (cases := #[rcase c z]) (blocking := false) (shape := .select) (w₁ := w) hg ?_ (fun fr cs es he => step_lone_select_recv_buf he hc hsome) h
  simp only [Act.eval, Array.getD_eq_getD_getElem?] at hch
  simp [go_sem, execOp, ho, rcase, hz]
  exact hch
theorem wp_region_sel_none {id : Nat} {o : Oper} {l : List Oper} {ch : Operand} {t : TypeId} {c cap s r : Nat} {tm : Bool} {z : Value} (hg : o.guard = none) (ho : o.op = .select #[{ chan := ch, send := none, elem := t }] false)
    (hz : (zeroValue t).run P w = .ok z w) (hch : a.eval ch = .chan (some c)) (hc : w.heap[c]? = some (.chan cap #[] false s r tm))
    (h : wpList P (o :: l).toArray Q l (a.put o.dst (.tuple #[goInt (-1), .bool false, z])) w) : (Code.region id (o :: l).toArray false).wp P Q a w := by
  refine wp_region_comm (cases := #[rcase c z]) (blocking := false) (shape := .select) (w₁ := w) hg ?_ (fun fr cs es he => step_lone_select_default he hc) h
  simp only [Act.eval, Array.getD_eq_getD_getElem?] at hch
  simp [go_sem, execOp, ho, rcase, hz]
  exact hch
theorem wp_region_sel_send {id : Nat} {o : Oper} {l : List Oper} {ch x : Operand} {t : TypeId} {c cap s r : Nat} {buf : Array Value} {tm : Bool} {v z : Value} (hg : o.guard = none) (ho : o.op = .select #[{ chan := ch, send := some x, elem := t }] false)
    (hz : (zeroValue t).run P w = .ok z w) (hch : a.eval ch = .chan (some c)) (hx : a.eval x = v) (hc : w.heap[c]? = some (.chan cap buf false s r tm)) (hroom : buf.size < cap)
    (h : wpList P (o :: l).toArray Q l (a.put o.dst (.tuple #[goInt 0, .bool false])) (w.setChan c cap (buf.push v) false (s + 1) r tm)) : (Code.region id (o :: l).toArray false).wp P Q a w := by
  refine wp_region_comm (cases := #[scase c v z]) (blocking := false) (shape := .select) (w₁ := w) hg ?_ (fun fr cs es he => step_lone_select_send_room he hc hroom) h
  simp only [Act.eval, Array.getD_eq_getD_getElem?] at hch hx
  simp [go_sem, execOp, ho, scase, hz]
  exact ⟨hch, hx⟩
theorem wp_region_sel_full {id : Nat} {o : Oper} {l : List Oper} {ch x : Operand} {t : TypeId} {c cap s r : Nat} {buf : Array Value} {tm : Bool} {v z : Value} (hg : o.guard = none) (ho : o.op = .select #[{ chan := ch, send := some x, elem := t }] false)
    (hz : (zeroValue t).run P w = .ok z w) (hch : a.eval ch = .chan (some c)) (hx : a.eval x = v) (hc : w.heap[c]? = some (.chan cap buf false s r tm)) (hfull : cap ≤ buf.size)
    (h : wpList P (o :: l).toArray Q l (a.put o.dst (.tuple #[goInt (-1), .bool false])) w) : (Code.region id (o :: l).toArray false).wp P Q a w := by
  refine wp_region_comm (cases := #[scase c v z]) (blocking := false) (shape := .select) (w₁ := w) hg ?_ (fun fr cs es he => step_lone_select_send_full he hc hfull) h
  simp only [Act.eval, Array.getD_eq_getD_getElem?] at hch hx
  simp [go_sem, execOp, ho, scase, hz]
  exact ⟨hch, hx⟩
end
end Go.RowKit
