/-
  Buffers of the call's own beside blocks that are known. Plain lemmas over any program; no condition.
-/
import Derived.Test.YtcopknopifbebaaGreatDoorZLib9

namespace Go.Bar
open Go.RowKit

section
variable {w wr w' : World} {e e' : TypeId} {sz sz' n n' : Nat} {v v' : Value} {xs xs' : List Value}
theorem NBuf.set_ne (h : NBuf w wr e sz v n xs) {M : Nat} {T : TypeId} {cur : Array Value} (hb : Blk wr M T cur) (hne : e ≠ T) (hM : w.heap.size ≤ M) (i : Nat) (u : Value) : NBuf w (wr.setCell ⟨M, i, none⟩ u) e sz v n xs :=
  ⟨h.buf.set_ne hb hne i u, h.below.setCell (p := ⟨M, i, none⟩) hM u, h.new⟩
theorem NBuf.lt (h : NBuf w wr e sz v n xs) (hn : 0 < n) : ∀ k, v.ownBlock = some k → k < wr.heap.size := h.buf.lt hn
end

end Go.Bar
