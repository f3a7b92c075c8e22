/-
 Blocks that are known whole: all their cells at once. Plain lemmas over any program; no condition.
-/
import Derived.Test.YtgabmfibfikdbaaGreatDoorZLib9
import Derived.Test.YtgabmfibfikdbaaGreatDoorZLib17

namespace Go.Bar
open Go.RowKit

section
variable {w : World} {M : Nat} {T : TypeId} {a0 a1 a2 a3 a4 a5 a6 a7 a8 a9 a10 a11 : Value}
theorem Blk.c1 (h : Blk w M T #[a0]) : w.cell? ⟨M, 0, none⟩ = some a0 := h.cell (i := 0) rfl
theorem Blk.c2 (h : Blk w M T #[a0, a1]) : w.cell? ⟨M, 0, none⟩ = some a0 /\ w.cell? ⟨M, 1, none⟩ = some a1 := ⟨h.cell (i := 0) rfl, h.cell (i := 1) rfl⟩
theorem Blk.c3 (h : Blk w M T #[a0, a1, a2]) : w.cell? ⟨M, 0, none⟩ = some a0 /\ w.cell? ⟨M, 1, none⟩ = some a1 /\ w.cell? ⟨M, 2, none⟩ = some a2 := ⟨h.cell (i := 0) rfl, h.cell (i := 1) rfl, h.cell (i := 2) rfl⟩
theorem Blk.c4 (h : Blk w M T #[a0, a1, a2, a3]) : w.cell? ⟨M, 0, none⟩ = some a0 /\ w.cell? ⟨M, 1, none⟩ = some a1 /\ w.cell? ⟨M, 2, none⟩ = some a2 /\ w.cell? ⟨M, 3, none⟩ = some a3 := ⟨h.cell (i := 0) rfl, h.cell (i := 1) rfl, h.cell (i := 2) rfl, h.cell (i := 3) rfl⟩
theorem Blk.c5 (h : Blk w M T #[a0, a1, a2, a3, a4]) : w.cell? ⟨M, 0, none⟩ = some a0 /\ w.cell? ⟨M, 1, none⟩ = some a1 /\ w.cell? ⟨M, 2, none⟩ = some a2 /\ w.cell? ⟨M, 3, none⟩ = some a3 /\ w.cell? ⟨M, 4, none⟩ = some a4 := ⟨h.cell (i := 0) rfl, h.cell (i := 1) rfl, h.cell (i := 2) rfl, h.cell (i := 3) rfl, h.cell (i := 4) rfl⟩
theorem Blk.c6 (h : Blk w M T #[a0, a1, a2, a3, a4, a5]) : w.cell? ⟨M, 0, none⟩ = some a0 /\ w.cell? ⟨M, 1, none⟩ = some a1 /\ w.cell? ⟨M, 2, none⟩ = some a2 /\ w.cell? ⟨M, 3, none⟩ = some a3 /\ w.cell? ⟨M, 4, none⟩ = some a4 /\ w.cell? ⟨M, 5, none⟩ = some a5 := ⟨h.cell (i := 0) rfl, h.cell (i := 1) rfl, h.cell (i := 2) rfl, h.cell (i := 3) rfl, h.cell (i := 4) rfl, h.cell (i := 5) rfl⟩
theorem Blk.c8 (h : Blk w M T #[a0, a1, a2, a3, a4, a5, a6, a7]) : w.cell? ⟨M, 0, none⟩ = some a0 /\ w.cell? ⟨M, 1, none⟩ = some a1 /\ w.cell? ⟨M, 2, none⟩ = some a2 /\ w.cell? ⟨M, 3, none⟩ = some a3 /\ w.cell? ⟨M, 4, none⟩ = some a4 /\ w.cell? ⟨M, 5, none⟩ = some a5 /\ w.cell? ⟨M, 6, none⟩ = some a6 /\ w.cell? ⟨M, 7, none⟩ = some a7 := ⟨h.cell (i := 0) rfl, h.cell (i := 1) rfl, h.cell (i := 2) rfl, h.cell (i := 3) rfl, h.cell (i := 4) rfl, h.cell (i := 5) rfl, h.cell (i := 6) rfl, h.cell (i := 7) rfl⟩
theorem Blk.c10 (h : Blk w M T #[a0, a1, a2, a3, a4, a5, a6, a7, a8, a9]) : w.cell? ⟨M, 0, none⟩ = some a0 /\ w.cell? ⟨M, 1, none⟩ = some a1 /\ w.cell? ⟨M, 2, none⟩ = some a2 /\ w.cell? ⟨M, 3, none⟩ = some a3 /\ w.cell? ⟨M, 4, none⟩ = some a4 /\ w.cell? ⟨M, 5, none⟩ = some a5 /\ w.cell? ⟨M, 6, none⟩ = some a6 /\ w.cell? ⟨M, 7, none⟩ = some a7 /\ w.cell? ⟨M, 8, none⟩ = some a8 /\ w.cell? ⟨M, 9, none⟩ = some a9 := ⟨h.cell (i := 0) rfl, h.cell (i := 1) rfl, h.cell (i := 2) rfl, h.cell (i := 3) rfl, h.cell (i := 4) rfl, h.cell (i := 5) rfl, h.cell (i := 6) rfl, h.cell (i := 7) rfl, h.cell (i := 8) rfl, h.cell (i := 9) rfl⟩
end
end Go.Bar
