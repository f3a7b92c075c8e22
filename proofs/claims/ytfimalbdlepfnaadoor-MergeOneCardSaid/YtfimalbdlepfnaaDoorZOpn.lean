/-
  Arguments: slices opened by their cells, without the argument's own shape. Plain lemmas over any program; no condition.
-/
import Derived.Test.YtfimalbdlepfnaaDoorZLib2

namespace Go.Bar
open Go.RowKit Go.ChangeShapes Go.WideShapes Go.Deep

section
variable {H : Type} {enc : TypeId × Value → H} {P : Program} {w : World} {base : Nat} {spare : Nat → Bool} {held : Bool}
/-- a slice of structs of one-cell fields, by its cells -/
theorem open_fields_raw {t e : TypeId} {fs : Array Field} {x : Value} {y : DataW H × List MemPlace} {fuel : Nat} (ht : P.underlying t = some (.slice e)) (he : P.underlying e = some (.struct fs))
    (hone : oneCellFields P fs = true) (hC : P.cellsOf e = fs.size) (hpos : 0 < fs.size) (hf : DataW.trod enc P w base spare held fuel t [x] = some y) :
    ∃ (A : Option Addr) (n c : Nat), x = .slice A n c ∧ n ≤ c ∧ c ≤ maxLen ∧ (0 < n → ∃ b o, A = some ⟨b, o, none⟩ ∧ b < w.heap.size ∧
      ∀ i, i < n → ∀ (j : Nat) (f : Field), fs[j]? = some f → ∃ (x : Value) (y : DataW H × List MemPlace) (k : Nat), w.cell? ⟨b, o + (i * fs.size + j), none⟩ = some x ∧ DataW.trod enc P w base spare held k f.type [x] = some y) := by
  rcases open_slice ht hf with ⟨hcs, _⟩ | ⟨a, len, cap, m, n, D, Pl, hcs, _, hlc, hcm, hm, _, hi⟩
  · simp only [List.cons.injEq, and_true] at hcs
    subst hcs
    exact ⟨none, 0, 0, rfl, Nat.le_refl _, by decide, fun h => absurd h (Nat.lt_irrefl _)⟩
  · simp only [List.cons.injEq, and_true] at hcs
    subst hcs
    refine ⟨some a, len, cap, rfl, hlc, hcm, fun h0 => ?_⟩
    obtain ⟨b, o, spot⟩ := a
    have hread : ∀ i, i < len → ∀ (j : Nat) (f : Field), fs[j]? = some f → ∃ (x : Value) (y : DataW H × List MemPlace) (k : Nat), w.cell? ((Addr.add ⟨b, o, spot⟩ (i * fs.size)).add j) = some x ∧ DataW.trod enc P w base spare held k f.type [x] = some y := by
      intro i hil j f hj
      obtain ⟨cs, hc, hr⟩ := hi i (by rw [hm]; split <;> omega)
      rw [hC] at hc
      obtain ⟨_, hcl, hat⟩ := World.cells?_some hc
      obtain ⟨ys, k, _, _, _, hyl, hg⟩ := DataW.trod_struct he hr
      obtain ⟨ho, hk⟩ := hone_of hone j f hj
      have hjl : j < fs.size := (Array.getElem?_eq_some_iff.1 hj).1
      have h1 := hg j f hj
      rw [ho, hk] at h1
      have hone' : (cs.drop j).take 1 = [cs[j]'(by omega)] := by
        rw [List.drop_eq_getElem_cons (by omega)]
        rfl
      rw [hone'] at h1
      exact ⟨_, _, k, (hat j hjl).trans (List.getElem?_eq_getElem (by omega)), h1.trans (List.getElem?_eq_getElem (by omega))⟩
    have hspot : spot = none := by
      obtain ⟨x, y, k, hat, _⟩ := hread 0 h0 0 _ (Array.getElem?_eq_getElem hpos)
      rw [Nat.zero_mul, show ((Addr.add ⟨b, o, spot⟩ 0).add 0) = (⟨b, o, spot⟩ : Addr) by simp [Addr.add]] at hat
      exact World.cell?_spot hat
    subst hspot
    have hlt : b < w.heap.size := by
      obtain ⟨x, y, k, hat, _⟩ := hread 0 h0 0 _ (Array.getElem?_eq_getElem hpos)
      rw [addr_add, addr_add] at hat
      exact World.block_lt_of_cell? _ _ hat
    refine ⟨b, o, rfl, hlt, fun i hil j f hj => ?_⟩
    obtain ⟨x, y, k, hat, hr⟩ := hread i hil j f hj
    rw [addr_add, addr_add, Nat.add_assoc] at hat
    exact ⟨x, y, k, hat, hr⟩
/-- a slice of one-cell elements, by its cells -/
theorem open_ones_raw {t e : TypeId} {x : Value} {y : DataW H × List MemPlace} {fuel : Nat} (ht : P.underlying t = some (.slice e)) (hC : P.cellsOf e = 1) (hf : DataW.trod enc P w base spare held fuel t [x] = some y) :
    ∃ (A : Option Addr) (n c : Nat), x = .slice A n c ∧ n ≤ c ∧ c ≤ maxLen ∧ (0 < n → ∃ b o, A = some ⟨b, o, none⟩ ∧ b < w.heap.size ∧
      ∀ i, i < n → ∃ (x : Value) (y : DataW H × List MemPlace) (k : Nat), w.cell? ⟨b, o + i, none⟩ = some x ∧ DataW.trod enc P w base spare held k e [x] = some y) := by
  rcases open_slice ht hf with ⟨hcs, _⟩ | ⟨a, len, cap, m, n, D, Pl, hcs, _, hlc, hcm, hm, _, hi⟩
  · simp only [List.cons.injEq, and_true] at hcs
    subst hcs
    exact ⟨none, 0, 0, rfl, Nat.le_refl _, by decide, fun h => absurd h (Nat.lt_irrefl _)⟩
  · simp only [List.cons.injEq, and_true] at hcs
    subst hcs
    refine ⟨some a, len, cap, rfl, hlc, hcm, fun h0 => ?_⟩
    obtain ⟨b, o, spot⟩ := a
    have hread : ∀ i, i < len → ∃ (x : Value) (y : DataW H × List MemPlace) (k : Nat), w.cell? (Addr.add ⟨b, o, spot⟩ i) = some x ∧ DataW.trod enc P w base spare held k e [x] = some y := by
      intro i hil
      obtain ⟨cs, hc, hr⟩ := hi i (by rw [hm]; split <;> omega)
      rw [hC, Nat.mul_one] at hc
      obtain ⟨_, hcl, hat⟩ := World.cells?_some hc
      match cs, hcl with
      | [c0], _ =>
        have := hat 0 (by omega)
        rw [show (Addr.add ⟨b, o, spot⟩ i).add 0 = Addr.add ⟨b, o, spot⟩ i by simp [Addr.add]] at this
        exact ⟨c0, _, _, this, hr⟩
    have hspot : spot = none := by
      obtain ⟨x, y, k, hat, _⟩ := hread 0 h0
      rw [show (Addr.add ⟨b, o, spot⟩ 0) = (⟨b, o, spot⟩ : Addr) by simp [Addr.add]] at hat
      exact World.cell?_spot hat
    subst hspot
    have hlt : b < w.heap.size := by
      obtain ⟨x, y, k, hat, _⟩ := hread 0 h0
      rw [addr_add] at hat
      exact World.block_lt_of_cell? _ _ hat
    refine ⟨b, o, rfl, hlt, fun i hil => ?_⟩
    obtain ⟨x, y, k, hat, hr⟩ := hread i hil
    rw [addr_add] at hat
    exact ⟨x, y, k, hat, hr⟩
end
end Go.Bar
