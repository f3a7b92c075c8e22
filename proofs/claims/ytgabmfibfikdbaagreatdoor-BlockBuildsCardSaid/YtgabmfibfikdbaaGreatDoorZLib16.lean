/-
 Parts of slices: the value of l[a:b], and what it holds. Plain lemmas over any program; no condition.
-/
import Derived.Test.YtgabmfibfikdbaaGreatDoorZLib4

namespace Go.Bar
open Go.RowKit

def dropA (a : Option Addr) (c k sz : Nat) : Option Addr := if c = k then a else a.map (·.add (k * sz))

section
variable {P : Program} {t e : TypeId} {i : TypeInfo} {w : World} {a : Option Addr} {n c sz : Nat}
theorem run_slice_ft (ht : P.underlying t = some (.slice e)) (hi : P.info? e = some i) (hs : i.size = sz) (l h : Nat) (hlh : l <= h) (hc : h <= c) (w : World) :
  (Instr.slice t (.slice a n c) (some (.int .i64 (l : Int))) (some (.int .i64 (h : Int))) none).run P w = .ok (.slice (dropA a c l sz) (h - l) (c - l)) w := by
 simp [Instr.slice, run_underlying ht, Instr.sliceBounds, Instr.sliceBound, asIntOf, sizeOf, typeInfo, hi, hs, hlh, hc, dropA]
theorem run_slice_f (ht : P.underlying t = some (.slice e)) (hi : P.info? e = some i) (hs : i.size = sz) (l : Nat) (hl : l <= n) (_hc : n <= c) (w : World) :
  (Instr.slice t (.slice a n c) (some (.int .i64 (l : Int))) none none).run P w = .ok (.slice (dropA a c l sz) (n - l) (c - l)) w := by
 simp [Instr.slice, run_underlying ht, Instr.sliceBounds, Instr.sliceBound, asIntOf, sizeOf, typeInfo, hi, hs, hl, dropA]
end

theorem SlAt.part {w : World} {sz n c : Nat} {a : Option Addr} {xs : List Value} (h : SlAt w sz (.slice a n c) n xs) (l m : Nat) (hlm : l <= m) (hm : m <= n) : SlAt w sz (.slice (dropA a c l sz) (m - l) (c - l)) (m - l) ((xs.drop (l * sz)).take ((m - l) * sz)) := by
 obtain ⟨hl, A', c1, hv', hnc, hcm, hv⟩ := h
 injection hv' with h1 h2 h3
 subst h1; subst h3
 have e1 : (m - l) * sz = m * sz - l * sz := Nat.sub_mul _ _ _
 have e2 := Nat.mul_le_mul_right sz hlm
 have e3 := Nat.mul_le_mul_right sz hm
 refine ⟨by rw [List.length_take, List.length_drop]; omega, _, _, rfl, by omega, by omega, fun h0 => ?_⟩
 obtain ⟨b, o, rfl, hlt, hx⟩ := hv (by omega)
 have hne : ¬ c = l := by
  intro hcl
  subst hcl
  have : m = c := by omega
  subst this
  simp at h0
 refine ⟨b, o + l * sz, ?_, hlt, fun j hj => ?_⟩
 ·unfold dropA
  rw [if_neg hne]
  simp [addr_add]
 ·rw [Nat.add_assoc, hx (l * sz + j) (by omega), List.getElem?_take, if_pos (by omega), List.getElem?_drop]

end Go.Bar
