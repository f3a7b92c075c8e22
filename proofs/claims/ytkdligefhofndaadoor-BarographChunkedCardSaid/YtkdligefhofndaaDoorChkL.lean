/-
  Top 09: the arguments of BarographChunked; what its frame takes.
-/
import Derived.Test.YtkdligefhofndaaDoorChkW
import Derived.Test.YtkdligefhofndaaDoorLib2
import Derived.Test.YtkdligefhofndaaDoorRows
import Derived.LaidMore
import Derived.Lay
import Derived.Stop.Joined
import Derived.ChangeSame
import Derived.OpenShut
namespace Go.Proofs.YtkdligefhofndaaDoor
open Go.RowKit Go.Bar Go.Bar.Xor Go.ChangeShapes Go.WideShapes Go.ChangeAt Go.Deep

section
variable {H : Type} {enc : TypeId × Value → H} {P : Program} {w : World} {base : Nat} {spare : Nat → Bool} {held : Bool}
theorem open_ones_raw {t e : TypeId} {x : Value} {y : DataW H × List MemPlace} {fuel : Nat} (ht : P.underlying t = some (.slice e)) (hC : P.cellsOf e = 1) (hf : DataW.trod enc P w base spare held fuel t [x] = some y) :
    ∃ (A : Option Addr) (n c : Nat), x = .slice A n c ∧ n ≤ c ∧ c ≤ maxLen ∧ (0 < n → ∃ b o, A = some ⟨b, o, none⟩ ∧ b < w.heap.size ∧
      ∀ i, i < n → ∃ (x : Value) (y : DataW H × List MemPlace) (k : Nat), w.cell? ⟨b, o + i, none⟩ = some x ∧ DataW.trod enc P w base spare held k e [x] = some y) := by
  rcases open_slice ht hf with ⟨hcs, _⟩ | ⟨a, len, cap, m, n, D, Pl, hcs, _, hlc, hcm, hm, _, hi⟩
  · simp only [List.cons.injEq, and_true] at hcs
    subst hcs
    exact ⟨none, 0, 0, rfl, Nat.le_refl _, by decide, fun h => absurd h (Nat.lt_irrefl _)⟩
  · simp only [List.cons.injEq, and_true] at hcs
    subst hcs
    refine ⟨some a, len, cap, rfl, hlc, hcm, fun h0 => ?_⟩
    obtain ⟨b, o, spot⟩ := a
    have hread : ∀ i, i < len → ∃ (x : Value) (y : DataW H × List MemPlace) (k : Nat), w.cell? (Addr.add ⟨b, o, spot⟩ i) = some x ∧ DataW.trod enc P w base spare held k e [x] = some y := by
      intro i hil
      obtain ⟨cs, hc, hr⟩ := hi i (by rw [hm]; split <;> omega)
      rw [hC, Nat.mul_one] at hc
      obtain ⟨_, hcl, hat⟩ := World.cells?_some hc
      match cs, hcl with
      | [c0], _ =>
        have := hat 0 (by omega)
        rw [show (Addr.add ⟨b, o, spot⟩ i).add 0 = Addr.add ⟨b, o, spot⟩ i by simp [Addr.add]] at this
        exact ⟨c0, _, _, this, hr⟩
    have hspot : spot = none := by
      obtain ⟨x, y, k, hat, _⟩ := hread 0 h0
      rw [show (Addr.add ⟨b, o, spot⟩ 0) = (⟨b, o, spot⟩ : Addr) by simp [Addr.add]] at hat
      exact World.cell?_spot hat
    subst hspot
    have hlt : b < w.heap.size := by
      obtain ⟨x, y, k, hat, _⟩ := hread 0 h0
      rw [addr_add] at hat
      exact World.block_lt_of_cell? _ _ hat
    refine ⟨b, o, rfl, hlt, fun i hil => ?_⟩
    obtain ⟨x, y, k, hat, hr⟩ := hread i hil
    rw [addr_add] at hat
    exact ⟨x, y, k, hat, hr⟩
end

set_option maxRecDepth 10000 in
theorem open_u64s {H : Type} {enc : TypeId × Value → H} {W : World} {base b0 : Nat} {spare : Nat → Bool} {held : Bool} {r : Reach} {v : Value} {d : DataW H} {p : List MemPlace} (hval : Value.okWide Tryd.prog W r b0 22 v)
    (h : DataW.Trod enc Tryd.prog W base spare held 22 v d p) : ∃ l, U64Arg W v l := by
  obtain ⟨A0, n0, c0, rfl⟩ := okWide_slice Tryd.underlying22 hval
  obtain ⟨fuel, hf⟩ := h
  have hf2 : DataW.trod enc Tryd.prog W base spare held fuel 22 [.slice A0 n0 c0] = some (d, p) := by simpa [Value.cells] using hf
  obtain ⟨A, n, c, he, hnc, hcm, hx⟩ := open_ones_raw Tryd.underlying22 (by kernel_rfl) hf2
  rw [he]
  rcases Nat.eq_zero_or_pos n with h0 | h0
  · subst h0
    exact ⟨[], ⟨rfl, A, c, rfl, hnc, hcm, fun h => absurd h (by simp)⟩, by simp⟩
  · obtain ⟨b, o, rfl, hb, hg⟩ := hx h0
    obtain ⟨rs, hl, ht⟩ := list_of (fun i (z : Nat) => W.cell? ⟨b, o + i, none⟩ = some (.int .u64 (z : Nat)) ∧ z < 18446744073709551616) n (fun i hi => by
      obtain ⟨x, y, k, hc, htr⟩ := hg i hi
      obtain ⟨z, e1, _, w1⟩ := DataW.trod_int Tryd.underlying25 htr
      replace e1 : x = _ := (List.cons.inj e1).1
      subst e1
      have hz := bounds_u64 w1
      exact ⟨z.toNat, by rw [hc]; congr 2; omega, by omega⟩)
    refine ⟨rs, ⟨by simp, some ⟨b, o, none⟩, c, by rw [hl], by rw [hl]; exact hnc, hcm, fun _ => ⟨b, o, rfl, hb, fun j hj => ?_⟩⟩, fun z hz => by obtain ⟨i, hi⟩ := List.mem_iff_getElem?.1 hz; exact (ht i z hi).2⟩
    rw [Nat.mul_one] at hj
    have hg := List.getElem?_eq_getElem hj
    rw [List.getElem?_map, hg]
    exact (ht _ _ hg).1

theorem law_own : ownKnob Tryd.prog.godebug = none := by kernel_rfl
theorem law_laid : laidOutB Tryd.prog = true := by kernel_rfl
theorem g_widths : Tryd.prog.globalNamed "barograph/xor.widths" = some 0 := by kernel_rfl
theorem t_widths : (Tryd.prog.globals[0]?).map (·.type) = some 93 := by kernel_rfl
set_option maxRecDepth 100000 in
/-- WHAT THE PREMISE GIVES: the cells of 'widths' -/
theorem of_laid {W : World} (h : laidMetH Tryd.prog [("barograph/xor.widths", Rows.laid_barograph_xor_widths), ("math/bits.deBruijn32tab", Rows.laid_math_bits_deBruijn32tab), ("math/bits.deBruijn64tab", Rows.laid_math_bits_deBruijn64tab), ("internal/strconv.uint64pow10", Rows.laid_internal_strconv_uint64pow10)] W) : WidthsAt W := by
  rw [MakeChecks.laidMetH_plain _ _ _ (by kernel_rfl)] at h
  obtain ⟨ps, ⟨g0, t0, cs0, f0, p0, q0, hg0, ht0, hv0, hd0, _, _⟩, _, _⟩ := h
  obtain rfl := Option.some.inj (g_widths.symm.trans hg0)
  obtain rfl := Option.some.inj (t_widths.symm.trans ht0)
  obtain ⟨xs, m1, rfl, hx1, hlen, hn3, hel⟩ := DataW.trod_array Tryd.underlying93 hd0
  have c3 : Tryd.prog.cellsOf 3 = 1 := by kernel_rfl
  have c94 : Tryd.prog.cellsOf 93 = 5 := by kernel_rfl
  rw [c94] at hlen
  obtain ⟨l, hcs⟩ : ∃ l, cs0.toList = l := ⟨_, rfl⟩
  rw [hcs] at hlen hel
  simp only [Prod.mk.injEq] at hx1
  have hx := hx1.1
  match xs, hn3, hx, hel with
  | [x0, x1, x2, x3, x4], _, hx, hel =>
    match l, hlen, hcs, hel with
    | [a0, a1, a2, a3, a4], _, hcs, hel =>
      simp only [Rows.laid_barograph_xor_widths, DataW.agg.injEq, List.map_cons, List.map_nil, List.cons.injEq, and_true] at hx
      obtain ⟨y0, y1, y2, y3, y4⟩ := hx
      have hcell : ∀ i, W.cell? ⟨0, i, none⟩ = [a0, a1, a2, a3, a4][i]? := fun i => by
        have := World.var?_cell hg0 hv0 i
        rw [← hcs, Array.getElem?_toList]
        exact this
      have h0 := hel 0 (by decide)
      have h1 := hel 1 (by decide)
      have h2 := hel 2 (by decide)
      have h3 := hel 3 (by decide)
      have h4 := hel 4 (by decide)
      rw [c3] at h0 h1 h2 h3 h4
      have val : ∀ (a : Value) (x : DataW Unit × List MemPlace) (k : Int), DataW.trod (fun _ => ()) Tryd.prog W 0 (fun _ => true) false m1 3 [a] = some x → DataW.lit (.int .i64 k) = x.1 → a = .int .i64 k := fun a x k hd hk => by
        obtain ⟨z, e1, e2, _⟩ := DataW.trod_int Tryd.underlying3 hd
        rw [e2] at hk
        simp only [DataW.lit.injEq, Lit.int.injEq, true_and] at hk
        subst hk
        simpa using e1
      refine ⟨fun k hk => ?_⟩
      rw [hcell]
      rcases (show k = 0 ∨ k = 1 ∨ k = 2 ∨ k = 3 ∨ k = 4 by omega) with rfl | rfl | rfl | rfl | rfl
      · exact congrArg some (val a0 x0 0 h0 y0)
      · exact congrArg some (val a1 x1 7 h1 y1)
      · exact congrArg some (val a2 x2 12 h2 y2)
      · exact congrArg some (val a3 x3 20 h3 y3)
      · exact congrArg some (val a4 x4 64 h4 y4)

/-- a laid heap meets the premise -/
theorem door_met (os : Os) (args : Array Value) : laidMetH Tryd.prog [("barograph/xor.widths", Rows.laid_barograph_xor_widths), ("math/bits.deBruijn32tab", Rows.laid_math_bits_deBruijn32tab), ("math/bits.deBruijn64tab", Rows.laid_math_bits_deBruijn64tab), ("internal/strconv.uint64pow10", Rows.laid_internal_strconv_uint64pow10)] ((World.laidAll Tryd.prog os [("barograph/xor.widths", Rows.laid_barograph_xor_widths), ("math/bits.deBruijn32tab", Rows.laid_math_bits_deBruijn32tab), ("math/bits.deBruijn64tab", Rows.laid_math_bits_deBruijn64tab), ("internal/strconv.uint64pow10", Rows.laid_internal_strconv_uint64pow10)]).forCall (fun _ _ => 0) ⟨#[], args, []⟩).memory := by
  rw [MakeChecks.laidMetH_plain _ _ _ (by kernel_rfl)]; exact laidMet_laidAll _ (by kernel_rfl) (by kernel_rfl)

end Go.Proofs.YtkdligefhofndaaDoor
