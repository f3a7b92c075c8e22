/-
  Blocks that are known whole: all their cells at once. Plain lemmas over any program; no condition.
-/
import Derived.Test.YtcopknopifbebaaGreatDoorZLib9
import Derived.Test.YtcopknopifbebaaGreatDoorZLib17

namespace Go.Bar
open Go.RowKit

section
variable {w : World} {M : Nat} {T : TypeId} {a0 a1 a2 a3 a4 a5 a6 a7 a8 a9 a10 a11 : Value}
theorem Blk.c2 (h : Blk w M T #[a0, a1]) : w.cell? ⟨M, 0, none⟩ = some a0 ∧ w.cell? ⟨M, 1, none⟩ = some a1 := ⟨h.cell (i := 0) rfl, h.cell (i := 1) rfl⟩
theorem Blk.c5 (h : Blk w M T #[a0, a1, a2, a3, a4]) : w.cell? ⟨M, 0, none⟩ = some a0 ∧ w.cell? ⟨M, 1, none⟩ = some a1 ∧ w.cell? ⟨M, 2, none⟩ = some a2 ∧ w.cell? ⟨M, 3, none⟩ = some a3 ∧ w.cell? ⟨M, 4, none⟩ = some a4 := ⟨h.cell (i := 0) rfl, h.cell (i := 1) rfl, h.cell (i := 2) rfl, h.cell (i := 3) rfl, h.cell (i := 4) rfl⟩
end
end Go.Bar
