/-
 Buffers of the call's own beside blocks that are known. Plain lemmas over any program; no condition.
-/
import Derived.Test.YtgabmfibfikdbaaGreatDoorZLib9

namespace Go.Bar
open Go.RowKit

section
variable {w wr w' : World} {e e' : TypeId} {sz sz' n n' : Nat} {v v' : Value} {xs xs' : List Value}
theorem NBuf.set_ne (h : NBuf w wr e sz v n xs) {M : Nat} {T : TypeId} {cur : Array Value} (hb : Blk wr M T cur) (hne : e ≠ T) (hM : w.heap.size <= M) (i : Nat) (u : Value) : NBuf w (wr.setCell ⟨M, i, none⟩ u) e sz v n xs :=
 ⟨h.buf.set_ne hb hne i u, h.below.setCell (p := ⟨M, i, none⟩) hM u, h.new⟩
theorem NBuf.set_blk (h : NBuf w wr e sz v n xs) {M : Nat} (hM : w.heap.size <= M) (hv : v.ownBlock ≠ some M) (i : Nat) (u : Value) : NBuf w (wr.setCell ⟨M, i, none⟩ u) e sz v n xs :=
 ⟨h.buf.keep (fun k hk => Below.heap_setCell wr ⟨M, i, none⟩ u k (fun hkM => hv (by rw [hk]; exact congrArg some hkM))), h.below.setCell (p := ⟨M, i, none⟩) hM u, h.new⟩
theorem NBuf.lt (h : NBuf w wr e sz v n xs) (hn : 0 < n) : ∀ k, v.ownBlock = some k -> k < wr.heap.size := h.buf.lt hn
end

theorem _root_.Go.RowKit.Below.drewN' {B : Nat} {a w : World} (h : Below B a w) (n : Nat) : Below B a (w.drewN n) := below_drewN h n
theorem _root_.Go.RowKit.Below.after_alloc {w : World} {o : Obj} {w' : World} (h : Below (w.alloc o).heap.size (w.alloc o) w') (o' : Obj) (_ : o = o' := by rfl) : Below w.heap.size w w' :=
 below_trans ((Below.refl _ _).alloc (Nat.le_refl _) _) h

end Go.Bar
