/-
  Blocks that are known whole: all their cells at once. Plain lemmas over any program; no condition.
-/
import Derived.Test.YtemmgejaoegpfaaLib9
import Derived.Test.YtemmgejaoegpfaaLib17
namespace Go.Bar
open Go.RowKit

section
variable {w : World} {M : Nat} {T : TypeId} {a0 a1 a2 a3 a4 a5 a6 a7 a8 a9 a10 a11 : Value}
theorem Blk.c1 (h : Blk w M T #[a0]) : w.cell? ⟨M, 0, none⟩ = some a0 := h.cell (i := 0) rfl
theorem Blk.c2 (h : Blk w M T #[a0, a1]) : w.cell? ⟨M, 0, none⟩ = some a0 ∧ w.cell? ⟨M, 1, none⟩ = some a1 := ⟨h.cell (i := 0) rfl, h.cell (i := 1) rfl⟩
theorem Blk.c3 (h : Blk w M T #[a0, a1, a2]) : w.cell? ⟨M, 0, none⟩ = some a0 ∧ w.cell? ⟨M, 1, none⟩ = some a1 ∧ w.cell? ⟨M, 2, none⟩ = some a2 := ⟨h.cell (i := 0) rfl, h.cell (i := 1) rfl, h.cell (i := 2) rfl⟩
theorem Blk.c4 (h : Blk w M T #[a0, a1, a2, a3]) : w.cell? ⟨M, 0, none⟩ = some a0 ∧ w.cell? ⟨M, 1, none⟩ = some a1 ∧ w.cell? ⟨M, 2, none⟩ = some a2 ∧ w.cell? ⟨M, 3, none⟩ = some a3 := ⟨h.cell (i := 0) rfl, h.cell (i := 1) rfl, h.cell (i := 2) rfl, h.cell (i := 3) rfl⟩
theorem Blk.c5 (h : Blk w M T #[a0, a1, a2, a3, a4]) : w.cell? ⟨M, 0, none⟩ = some a0 ∧ w.cell? ⟨M, 1, none⟩ = some a1 ∧ w.cell? ⟨M, 2, none⟩ = some a2 ∧ w.cell? ⟨M, 3, none⟩ = some a3 ∧ w.cell? ⟨M, 4, none⟩ = some a4 := ⟨h.cell (i := 0) rfl, h.cell (i := 1) rfl, h.cell (i := 2) rfl, h.cell (i := 3) rfl, h.cell (i := 4) rfl⟩
theorem Blk.c6 (h : Blk w M T #[a0, a1, a2, a3, a4, a5]) : w.cell? ⟨M, 0, none⟩ = some a0 ∧ w.cell? ⟨M, 1, none⟩ = some a1 ∧ w.cell? ⟨M, 2, none⟩ = some a2 ∧ w.cell? ⟨M, 3, none⟩ = some a3 ∧ w.cell? ⟨M, 4, none⟩ = some a4 ∧ w.cell? ⟨M, 5, none⟩ = some a5 := ⟨h.cell (i := 0) rfl, h.cell (i := 1) rfl, h.cell (i := 2) rfl, h.cell (i := 3) rfl, h.cell (i := 4) rfl, h.cell (i := 5) rfl⟩
theorem Blk.c7 (h : Blk w M T #[a0, a1, a2, a3, a4, a5, a6]) : w.cell? ⟨M, 0, none⟩ = some a0 ∧ w.cell? ⟨M, 1, none⟩ = some a1 ∧ w.cell? ⟨M, 2, none⟩ = some a2 ∧ w.cell? ⟨M, 3, none⟩ = some a3 ∧ w.cell? ⟨M, 4, none⟩ = some a4 ∧ w.cell? ⟨M, 5, none⟩ = some a5 ∧ w.cell? ⟨M, 6, none⟩ = some a6 := ⟨h.cell (i := 0) rfl, h.cell (i := 1) rfl, h.cell (i := 2) rfl, h.cell (i := 3) rfl, h.cell (i := 4) rfl, h.cell (i := 5) rfl, h.cell (i := 6) rfl⟩
theorem Blk.c8 (h : Blk w M T #[a0, a1, a2, a3, a4, a5, a6, a7]) : w.cell? ⟨M, 0, none⟩ = some a0 ∧ w.cell? ⟨M, 1, none⟩ = some a1 ∧ w.cell? ⟨M, 2, none⟩ = some a2 ∧ w.cell? ⟨M, 3, none⟩ = some a3 ∧ w.cell? ⟨M, 4, none⟩ = some a4 ∧ w.cell? ⟨M, 5, none⟩ = some a5 ∧ w.cell? ⟨M, 6, none⟩ = some a6 ∧ w.cell? ⟨M, 7, none⟩ = some a7 := ⟨h.cell (i := 0) rfl, h.cell (i := 1) rfl, h.cell (i := 2) rfl, h.cell (i := 3) rfl, h.cell (i := 4) rfl, h.cell (i := 5) rfl, h.cell (i := 6) rfl, h.cell (i := 7) rfl⟩
theorem Blk.c9 (h : Blk w M T #[a0, a1, a2, a3, a4, a5, a6, a7, a8]) : w.cell? ⟨M, 0, none⟩ = some a0 ∧ w.cell? ⟨M, 1, none⟩ = some a1 ∧ w.cell? ⟨M, 2, none⟩ = some a2 ∧ w.cell? ⟨M, 3, none⟩ = some a3 ∧ w.cell? ⟨M, 4, none⟩ = some a4 ∧ w.cell? ⟨M, 5, none⟩ = some a5 ∧ w.cell? ⟨M, 6, none⟩ = some a6 ∧ w.cell? ⟨M, 7, none⟩ = some a7 ∧ w.cell? ⟨M, 8, none⟩ = some a8 := ⟨h.cell (i := 0) rfl, h.cell (i := 1) rfl, h.cell (i := 2) rfl, h.cell (i := 3) rfl, h.cell (i := 4) rfl, h.cell (i := 5) rfl, h.cell (i := 6) rfl, h.cell (i := 7) rfl, h.cell (i := 8) rfl⟩
theorem Blk.c10 (h : Blk w M T #[a0, a1, a2, a3, a4, a5, a6, a7, a8, a9]) : w.cell? ⟨M, 0, none⟩ = some a0 ∧ w.cell? ⟨M, 1, none⟩ = some a1 ∧ w.cell? ⟨M, 2, none⟩ = some a2 ∧ w.cell? ⟨M, 3, none⟩ = some a3 ∧ w.cell? ⟨M, 4, none⟩ = some a4 ∧ w.cell? ⟨M, 5, none⟩ = some a5 ∧ w.cell? ⟨M, 6, none⟩ = some a6 ∧ w.cell? ⟨M, 7, none⟩ = some a7 ∧ w.cell? ⟨M, 8, none⟩ = some a8 ∧ w.cell? ⟨M, 9, none⟩ = some a9 := ⟨h.cell (i := 0) rfl, h.cell (i := 1) rfl, h.cell (i := 2) rfl, h.cell (i := 3) rfl, h.cell (i := 4) rfl, h.cell (i := 5) rfl, h.cell (i := 6) rfl, h.cell (i := 7) rfl, h.cell (i := 8) rfl, h.cell (i := 9) rfl⟩
theorem Blk.c11 (h : Blk w M T #[a0, a1, a2, a3, a4, a5, a6, a7, a8, a9, a10]) : w.cell? ⟨M, 0, none⟩ = some a0 ∧ w.cell? ⟨M, 1, none⟩ = some a1 ∧ w.cell? ⟨M, 2, none⟩ = some a2 ∧ w.cell? ⟨M, 3, none⟩ = some a3 ∧ w.cell? ⟨M, 4, none⟩ = some a4 ∧ w.cell? ⟨M, 5, none⟩ = some a5 ∧ w.cell? ⟨M, 6, none⟩ = some a6 ∧ w.cell? ⟨M, 7, none⟩ = some a7 ∧ w.cell? ⟨M, 8, none⟩ = some a8 ∧ w.cell? ⟨M, 9, none⟩ = some a9 ∧ w.cell? ⟨M, 10, none⟩ = some a10 := ⟨h.cell (i := 0) rfl, h.cell (i := 1) rfl, h.cell (i := 2) rfl, h.cell (i := 3) rfl, h.cell (i := 4) rfl, h.cell (i := 5) rfl, h.cell (i := 6) rfl, h.cell (i := 7) rfl, h.cell (i := 8) rfl, h.cell (i := 9) rfl, h.cell (i := 10) rfl⟩
theorem Blk.c12 (h : Blk w M T #[a0, a1, a2, a3, a4, a5, a6, a7, a8, a9, a10, a11]) : w.cell? ⟨M, 0, none⟩ = some a0 ∧ w.cell? ⟨M, 1, none⟩ = some a1 ∧ w.cell? ⟨M, 2, none⟩ = some a2 ∧ w.cell? ⟨M, 3, none⟩ = some a3 ∧ w.cell? ⟨M, 4, none⟩ = some a4 ∧ w.cell? ⟨M, 5, none⟩ = some a5 ∧ w.cell? ⟨M, 6, none⟩ = some a6 ∧ w.cell? ⟨M, 7, none⟩ = some a7 ∧ w.cell? ⟨M, 8, none⟩ = some a8 ∧ w.cell? ⟨M, 9, none⟩ = some a9 ∧ w.cell? ⟨M, 10, none⟩ = some a10 ∧ w.cell? ⟨M, 11, none⟩ = some a11 := ⟨h.cell (i := 0) rfl, h.cell (i := 1) rfl, h.cell (i := 2) rfl, h.cell (i := 3) rfl, h.cell (i := 4) rfl, h.cell (i := 5) rfl, h.cell (i := 6) rfl, h.cell (i := 7) rfl, h.cell (i := 8) rfl, h.cell (i := 9) rfl, h.cell (i := 10) rfl, h.cell (i := 11) rfl⟩
end
/-- m[k], an operation of a region that draws its order -/
theorem oper_lookup_mp {P : Program} {w : World} {o : Oper} {a : Act} {K : Act → World → Prop} {Q : Exit → Act → World → Prop} (m x : Operand) (t : TypeId) (hop : o.op = Op.lookup t m x false) {k e : TypeId} (T : MapTy P t k e) {b n : Nat} {f : List UInt8 → Option Int}
    (hm : a.eval m = .map (some b)) (h : MpAt P k e w b n f) (l : List UInt8) (hx : a.eval x = .string (bs l)) (hl : l.length ≤ maxLen) (z : Int) (hz : (f l).getD 0 = z)
    (hK : K (a.put o.dst (.int .i64 z)) w) : Oper.wp P o a w K Q := by
  subst hz
  obtain ⟨D, h, hs⟩ := h
  obtain ⟨c, hrun, hat, hwc⟩ := h.lookup_int (Maps.string_keyed T.key) T.map T.elem (T.zero w) (key_of T.key l hl)
  have := el_inj ((hs.at_ l).symm.trans hat)
  unfold Oper.wp
  simp [execOp, hop, hm, hx, hrun, Result.andThen]
  rw [← this]
  exact hK
end Go.Bar
