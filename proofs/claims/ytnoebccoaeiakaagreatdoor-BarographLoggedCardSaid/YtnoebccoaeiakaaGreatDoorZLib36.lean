/-
  Library 36: a store into a map of the call's own, as an operation. Plain lemmas over any program; no condition.
-/
import Derived.Test.YtnoebccoaeiakaaGreatDoorZLib34

namespace Go.Bar
open Go.RowKit
theorem eql_map_nil {P : Program} {t k e : TypeId} (w : World) (q : Option Nat) (h : P.underlying t = some (.map k e)) : (binOp .eql t (.map q) (.map none)).run P w = .ok (.bool q.isNone) w := by
  have h0 : ∀ n, (Op.equalIn (n + 1) t (.map q) (.map none)).run P w = .ok q.isNone w := fun n => by
    cases q <;> simp [Op.equalIn, run_underlying h]
  have h1 : (Op.equal t (.map q) (.map none)).run P w = .ok q.isNone w := h0 9999
  simp [binOp, h1]
variable {κ α : Type} {K : Kyk κ} {E : Elk α} {z : α} {P : Program} {t k e : TypeId} {w w' : World} {b n : Nat} {f : κ → Option α}
theorem oper_update_mf {o : Oper} {a : Act} {KK : Act → World → Prop} {Q : Exit → Act → World → Prop} (m x v : Operand) (t : TypeId) (hop : o.op = Op.mapUpdate t m x v) (T : Mty P t k e K E z) (hm : a.eval m = .map (some b)) (h : MfAt P k K E z w b n f) (hn : n < maxLen) (y : κ) (hx : a.eval x = K.val y) (hy : K.ok y) (u : α) (hv : a.eval v = E.enc u)
    (hK : ∀ w', MfAt P k K E z w' b (n + 1) (updF f y u) → w.grownBy w' (some b) → KK (a.put o.dst undef) w') : Oper.wp P o a w KK Q := by
  obtain ⟨D, h, hs⟩ := h
  obtain ⟨w', hrun, r1, r2⟩ := World.ownsMap.update h T.keyed T.map hn (T.key y hy) (E.rd_of u)
  unfold Oper.wp
  simp [execOp, hop, hm, hx, hv, hrun, Result.andThen]
  exact hK _ ⟨_, r1, hs.put h.isMap y u⟩ r2
theorem grown_after {r : Option Nat} (hb : Below w.heap.size w w') {w2 : World} (hg : w'.grownBy w2 r) : w.grownBy w2 r :=
  ⟨hg.os.trans hb.os, hg.tape.trans hb.tape, hg.output.trans hb.output, Nat.le_trans hb.size hg.size, fun k hk hne => (hg.block k (Nat.lt_of_lt_of_le hk hb.size) hne).trans (hb.block k hk)⟩
end Go.Bar
