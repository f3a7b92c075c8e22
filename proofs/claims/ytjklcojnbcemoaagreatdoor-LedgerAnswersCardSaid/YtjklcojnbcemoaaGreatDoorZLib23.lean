/-
  Buffers: shorter ones; stores behind their end; clear. Plain lemmas over any program; no condition.
-/
import Derived.Test.YtjklcojnbcemoaaGreatDoorZLib9
import Derived.Lib.SliceRun
import Derived.Lib.BufferOwn
import Derived.Test.YtjklcojnbcemoaaGreatDoorZLib7

namespace Go.Bar
open Go.RowKit

/-- the first k of a buffer's elements -/
theorem Buf.first {w : World} {e : TypeId} {sz n c : Nat} {A : Option Addr} {xs : List Value} (h : Buf w e sz (.slice A n c) n xs) (k : Nat) (hk : k ≤ n) : Buf w e sz (.slice A k c) k (xs.take (k * sz)) := by
  obtain ⟨hl, A', c', he, hnc, hc, hv⟩ := h
  injection he with h1 h2 h3
  subst h1; subst h3
  have hm := Nat.mul_le_mul_right sz hk
  refine ⟨by rw [List.length_take, hl]; omega, A, c, rfl, by omega, hc, fun h0 => ?_⟩
  obtain ⟨b, o, cur, fr, hA, hb, hs, hf, hx⟩ := hv h0
  exact ⟨b, o, cur, fr, hA, hb, hs, hf, fun j hj => by rw [hx j (by omega), List.getElem?_take_of_lt hj]⟩
/-- a store behind the end -/
theorem Buf.behind {w : World} {e : TypeId} {sz n b o c : Nat} {xs : List Value} (h : Buf w e sz (.slice (some ⟨b, o, none⟩) n c) n xs) {j : Nat} (hj : o + n * sz ≤ j) (u : Value) : Buf (w.setCell ⟨b, j, none⟩ u) e sz (.slice (some ⟨b, o, none⟩) n c) n xs := by
  obtain ⟨hl, A, c', hv', hnc, hc, hv⟩ := h
  injection hv' with h1 h2 h3
  subst h1; subst h3
  refine ⟨hl, _, c, rfl, hnc, hc, fun h0 => ?_⟩
  obtain ⟨b', o', cur, fr, h4, hbk, hs, hf, hx⟩ := hv h0
  injection h4 with h4
  injection h4 with h4 h5 _
  subst h4; subst h5
  refine ⟨b, o, cur.setIfInBounds j u, fr, rfl, by simp [World.setCell, Array.getElem?_modify, hbk], by simpa using hs, hf, fun i hi => ?_⟩
  rw [Array.getElem?_setIfInBounds_ne (by omega), hx i hi]
theorem Buf.behinds {e : TypeId} {sz n b o c : Nat} {xs : List Value} : ∀ (vs : List Value) (j : Nat) (w : World), Buf w e sz (.slice (some ⟨b, o, none⟩) n c) n xs → o + n * sz ≤ j → Buf (w.setCells b j vs) e sz (.slice (some ⟨b, o, none⟩) n c) n xs
  | [], _, _, h, _ => h
  | v :: r, j, w, h, hj => Buf.behinds r (j + 1) _ (h.behind hj v) (by omega)
theorem grownBy_setCells {a : World} {b : Nat} : ∀ (vs : List Value) (j : Nat) (w : World), a.grownBy w (some b) → a.grownBy (w.setCells b j vs) (some b)
  | [], _, _, h => h
  | v :: r, j, _, h => grownBy_setCells r (j + 1) _ (Go.Lib.grownBy_setB h j v)
/-- clear(s) on a part of a buffer -/
theorem run_clear_buf {P : Program} {w : World} {t e : TypeId} {z : Value} (ht : P.underlying t = some (.slice e)) (hv : ∀ w, (zeroValue e).run P w = .ok z w) (h1 : ∀ v ∈ z.cells, v.oneCell' = true) {sz b o n c : Nat} {xs : List Value} (hz : z.cells.size = sz) (h0 : 0 < sz)
    (h : Buf w e sz (.slice (some ⟨b, o, none⟩) n c) n xs) (k m c' : Nat) (hk : k + m ≤ n) (hm : 0 < m) :
    ∃ vs, ∀ ty, (Builtin.clear_ #[t] ty #[.slice (some ⟨b, o + k * sz, none⟩) m c']).run P w = .ok (.tuple #[]) (w.setCells b (o + k * sz) vs) := by
  have hlen : (Builtin.zeroCells z.cells m).toList.length = m * sz := by rw [Array.length_toList, size_zeroCells, hz]
  have hmul : k * sz + m * sz ≤ n * sz := by rw [← Nat.add_mul]; exact Nat.mul_le_mul_right sz hk
  refine ⟨(Builtin.zeroCells z.cells m).toList, fun ty => ?_⟩
  have hst := run_storeCells_cells (P := P) b (o + k * sz) (Builtin.zeroCells z.cells m).toList 0 w (fun j hj => by
      rw [hlen] at hj
      have := (h.cellN (j := k * sz + j) (by omega)).1
      rw [show o + k * sz + 0 + j = o + (k * sz + j) by omega, this, List.getElem?_eq_getElem (by rw [h.len]; omega)]; rfl) (fun j hj => by
      rw [hlen] at hj
      rw [show o + k * sz + 0 + j = o + (k * sz + j) by omega]
      exact (h.cellN (j := k * sz + j) (by omega)).2) (fun v hv' => by
      rw [Array.mem_toList_iff] at hv'
      unfold Builtin.zeroCells at hv'
      rw [Array.mem_map] at hv'
      obtain ⟨i, _, rfl⟩ := hv'
      have hlt : i % z.cells.size < z.cells.size := Nat.mod_lt _ (by omega)
      rw [getElem!_pos z.cells _ hlt]
      exact h1 _ (Array.getElem_mem hlt))
  simp only [Nat.add_zero] at hst
  obtain ⟨m', rfl⟩ : ∃ m', m = m' + 1 := ⟨m - 1, by omega⟩
  simp [Builtin.clear_, run_underlying ht, hv, hst]
end Go.Bar

/-
  Appends inside regions that draw their order (for Lib7, Lib8's rule). Plain lemmas over any program; no condition.
-/
namespace Go.Bar
open Go.RowKit

theorem Ap.below_full {w w' : World} {sz n : Nat} {A : Option Addr} (h : Ap w w' sz (.slice A n n)) : Below w.heap.size w w' := by
  refine ⟨h.os, h.tape, h.output, h.size, fun k hk => ?_⟩
  rcases h.block k hk with h1 | ⟨o, n', c, cur, cur', e, fr, hv, h2, h3, h4, h5⟩
  · exact h1
  · injection hv with a1 a2 a3
    subst a2; subst a3
    have : cur' = cur := Array.ext_getElem? (fun i => h5 i (by omega))
    rw [h2, h3, this]
/-- append, an operation of a region that draws its order -/
theorem oper_append_buf {P : Program} {o : Oper} {a : Act} {w : World} {K : Act → World → Prop} {Q : Exit → Act → World → Prop} (s x : Operand) (t : TypeId)
    (ho : o.op = .call { callee := .builtin .append, args := #[s, x], argTypes := #[t, t] }) {e : TypeId} {z : Value} {sz bytes : Nat} (hT : ElemTy P t e z sz bytes)
    {v y : Value} {n k : Nat} {xs news : List Value} (hv : a.eval s = v) (h : Buf w e sz v n xs) (hx : a.eval x = y) (hs : Src P sz t y k news w)
    (h63 : n + k ≤ maxLen) (hbytes : (n + k) * bytes ≤ 140737488355328)
    (hK : ∀ v' w', Buf w' e sz v' (n + k) (xs ++ news) → Ap w w' sz v → Grew w v v' → K (a.put o.dst v') w') : Oper.wp P o a w K Q := by
  obtain ⟨i, hi, hz, h1, h2⟩ := hT.info
  obtain ⟨v', w', hr, g2, g3, g4⟩ := run_append_buf (P := P) t t o.type i z bytes hT.slice hi hz h1 h2 hT.zs h y k news hs h63 hbytes
  unfold Oper.wp execOp
  simp only [ho, resolve, invoke, builtin, Sem.run_bind, Sem.run_pure, Result.andThen_ok, List.map_toArray, List.map_cons, List.map_nil, hv, hx, hr]
  exact hK _ _ g2 g3 g4
theorem FBuf.grown {w0 w w' : World} {e : TypeId} {sz n n' : Nat} {v v' : Value} {xs ys : List Value} (h : FBuf w0 w e sz v n xs) (hb : w0.heap.size ≤ w.heap.size) (hB : Buf w' e sz v' n' ys) (hg : Grew w v v') : FBuf w0 w' e sz v' n' ys := ⟨hB, hg.new hb h.new⟩

end Go.Bar
