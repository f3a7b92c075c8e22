/-
 Appends inside regions that draw their order (for Lib7, Lib8's rule). Plain lemmas over any program; no condition.
-/
import Derived.Test.YtgabmfibfikdbaaGreatDoorZLib8
import Derived.Test.YtgabmfibfikdbaaGreatDoorZLib9

namespace Go.Bar
open Go.RowKit

theorem oper_append_buf {P : Program} {o : Oper} {a : Act} {w : World} {K : Act -> World -> Prop} {Q : Exit -> Act -> World -> Prop} (s x : Operand) (t : TypeId)
  (ho : o.op = .call { callee := .builtin .append, args := #[s, x], argTypes := #[t, t] }) {e : TypeId} {z : Value} {sz bytes : Nat} (hT : ElemTy P t e z sz bytes)
  {v y : Value} {n k : Nat} {xs news : List Value} (hv : a.eval s = v) (h : Buf w e sz v n xs) (hx : a.eval x = y) (hs : Src P sz t y k news w)
  (h63 : n + k <= maxLen) (hbytes : (n + k) * bytes <= 140737488355328)
  (hK : ∀ v' w', Buf w' e sz v' (n + k) (xs ++ news) -> Ap w w' sz v -> Grew w v v' -> K (a.put o.dst v') w') : Oper.wp P o a w K Q := by
 obtain ⟨i, hi, hz, h1, h2⟩ := hT.info
 obtain ⟨v', w', hr, g2, g3, g4⟩ := run_append_buf (P := P) t t o.type i z bytes hT.slice hi hz h1 h2 hT.zs h y k news hs h63 hbytes
 unfold Oper.wp execOp
 simp only [ho, resolve, invoke, builtin, Sem.run_bind, Sem.run_pure, Result.andThen_ok, List.map_toArray, List.map_cons, List.map_nil, hv, hx, hr]
 exact hK _ _ g2 g3 g4
theorem FBuf.grown {w0 w w' : World} {e : TypeId} {sz n n' : Nat} {v v' : Value} {xs ys : List Value} (h : FBuf w0 w e sz v n xs) (hb : w0.heap.size <= w.heap.size) (hB : Buf w' e sz v' n' ys) (hg : Grew w v v') : FBuf w0 w' e sz v' n' ys := ⟨hB, hg.new hb h.new⟩

end Go.Bar
