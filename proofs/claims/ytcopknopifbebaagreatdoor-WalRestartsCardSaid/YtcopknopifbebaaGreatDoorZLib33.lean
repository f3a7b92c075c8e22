/-
  Library: append in a guarded operation: for every program.
-/
import Derived.Test.YtcopknopifbebaaGreatDoorZLib3

namespace Go.Bar
open Go.RowKit
theorem wpList_append_el_g {P : Program} {ops : Array Oper} {rest : List Oper} {o : Oper} {a : Act} {Q : Exit → Act → World → Prop} {w : World} (hgd : Region.wanted o (yielded ops a.tmps) = true) (s x : Operand) (t tx : TypeId)
    (ho : o.op = .call { callee := .builtin .append, args := #[s, x], argTypes := #[t, tx] })
    {e : TypeId} {z : Value} {sz bytes : Nat} (hT : ElemTy P t e z sz bytes)
    {v : Value} {n : Nat} {xs : List Value} (hv : a.eval s = v) (h : Buf w e sz v n xs) {y : Value} {m : Nat} {news : List Value} (hx : a.eval x = y) (hs : Src P sz tx y m news w) (h63 : n + m ≤ maxLen) (hbytes : (n + m) * bytes ≤ 140737488355328)
    (K : ∀ v' w', Buf w' e sz v' (n + m) (xs ++ news) → Ap w w' sz v → Grew w v v' → wpList P ops Q rest (a.put o.dst v') w') : wpList P ops Q (o :: rest) a w := by
  obtain ⟨i, hi, hz, h1, h2⟩ := hT.info
  refine wpList_step fun K' hK => ?_
  simp only [hgd, if_true]
  obtain ⟨v', w', hr, g2, g3, g4⟩ := run_append_buf (P := P) t tx o.type i z bytes hT.slice hi hz h1 h2 hT.zs h y m news hs h63 hbytes
  unfold Oper.wp execOp
  simp only [ho, resolve, invoke, builtin, Sem.run_bind, Sem.run_pure, Result.andThen_ok, List.map_toArray, List.map_cons, List.map_nil, hv, hx, hr]
  exact hK _ _ (K v' w' g2 g3 g4)
end Go.Bar
