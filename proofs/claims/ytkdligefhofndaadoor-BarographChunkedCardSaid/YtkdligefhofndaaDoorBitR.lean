/-
  Layer 3: the walks of the document's answer (barographref03).
-/
import Derived.Test.YtkdligefhofndaaDoorBitA
namespace Go.Proofs.YtkdligefhofndaaDoor
open Go.RowKit Go.Bar Go.Bar.Bit

/-- truths as cells -/
def bls (l : List Bool) : List Value := l.map .bool
theorem bls_length (l : List Bool) : (bls l).length = l.length := List.length_map _
theorem bls_one (l : List Bool) : ∀ u ∈ bls l, u.oneCell' = true := by
  intro u hu
  obtain ⟨x, _, rfl⟩ := List.mem_map.1 hu
  rfl
/-- a list of truths, in memory of the call's own -/
structure BoolsAt (B : Nat) (w : World) (v : Value) (l : List Bool) : Prop where
  buf : Buf w 4 1 v l.length (bls l)
  new : ∀ k, v.ownBlock = some k → B ≤ k
/-- the call returned a list of truths, and nothing that was there has turned -/
def RetBools (W : World) (l : List Bool) (en : Ending) (w' : World) : Prop := ∃ v, en = .returned v ∧ BoolsAt W.heap.size w' v l ∧ Below W.heap.size W w'
theorem BoolsAt.below {B : Nat} {w w' : World} {v : Value} {l : List Bool} (h : BoolsAt B w v l) (hb : Below w.heap.size w w') : BoolsAt B w' v l := ⟨h.buf.below hb, h.new⟩
theorem BoolsAt.alloc {B : Nat} {w : World} {v : Value} {l : List Bool} (h : BoolsAt B w v l) (o : Obj) : BoolsAt B (w.alloc o) v l := ⟨h.buf.alloc o, h.new⟩
theorem BoolsAt.empty {B : Nat} {w : World} (h : B ≤ w.heap.size) : BoolsAt B (w.alloc (.cells #[] 4)) (.slice (some ⟨w.heap.size, 0, none⟩) 0 0) [] :=
  ⟨Buf.lit w 4 1 0 [] rfl (by decide), fun k hk => by simp [Value.ownBlock] at hk; omega⟩

end Go.Proofs.YtkdligefhofndaaDoor
