/-
  Layer 14: the laws' arguments; what their frames take.
-/
import Derived.Test.YtfimalbdlepfnaaDoorZMrgAC
import Derived.Test.YtfimalbdlepfnaaDoorZOpn
import Derived.Test.YtfimalbdlepfnaaDoorRows
import Derived.LaidMore
import Derived.Lay
import Derived.Stop.Joined
import Derived.ChangeSame

namespace Go.Proofs.YtfimalbdlepfnaaDoor
open Go.RowKit Go.Bar Go.Bar.Leb Go.Bar.Lab Go.Bar.Xor Go.Bar.Mrg Go.ChangeShapes Go.WideShapes Go.ChangeAt

section
variable {H : Type} {enc : TypeId × Value → H} {W : World} {base : Nat} {spare : Nat → Bool} {held : Bool}
/-- what an argument's numbers lie within -/
def On3Ok (x : On3) : Prop := x.nm < 256 ∧ (-9223372036854775808 ≤ x.t ∧ x.t ≤ 9223372036854775807) ∧ x.v < 18446744073709551616
theorem open_ones14 {x : Value} {y : DataW H × List MemPlace} {fuel : Nat} (h : DataW.trod enc Tryd.prog W base spare held fuel 25 [x] = some y) : ∃ l, O3At W x l ∧ ∀ z ∈ l, On3Ok z := by
  obtain ⟨A, n, c, rfl, hnc, hcm, hx⟩ := open_fields_raw Tryd.underlying25 Tryd.underlying29 (by kernel_rfl) (by kernel_rfl) (Nat.zero_lt_succ 2 : 0 < 3) h
  rcases Nat.eq_zero_or_pos n with h0 | h0
  · subst h0
    exact ⟨[], ⟨rfl, A, c, rfl, hnc, hcm, fun h => absurd h (by simp)⟩, by simp⟩
  · obtain ⟨b, o, rfl, hb, hf⟩ := hx h0
    obtain ⟨rs, hl, ht⟩ := list_of (fun i (x : On3) => (∀ j u, (enc3 x)[j]? = some u → W.cell? ⟨b, o + (i * 3 + j), none⟩ = some u) ∧ On3Ok x) n (fun i hi => by
      obtain ⟨x0, y0, k0, c0, t0⟩ := hf i hi 0 _ rfl
      obtain ⟨x1, y1, k1, c1, t1⟩ := hf i hi 1 _ rfl
      obtain ⟨x2, y2, k2, c2, t2⟩ := hf i hi 2 _ rfl
      obtain ⟨n0, e0, _, w0⟩ := DataW.trod_int Tryd.underlying5 t0
      obtain ⟨n1, e1, _, w1⟩ := DataW.trod_int Tryd.underlying2 t1
      obtain ⟨n2, e2, _, w2⟩ := DataW.trod_int Tryd.underlying27 t2
      replace e0 : x0 = _ := (List.cons.inj e0).1
      replace e1 : x1 = _ := (List.cons.inj e1).1
      replace e2 : x2 = _ := (List.cons.inj e2).1
      subst e0; subst e1; subst e2
      have w0 := bounds_u8 w0
      have w2 := bounds_u64 w2
      refine ⟨⟨n0.toNat, n1, n2.toNat⟩, fun j u hu => ?_, by show n0.toNat < 256; omega, bounds_i64 w1, by show n2.toNat < 18446744073709551616; omega⟩
      match j, hu with
      | 0, hu => simp [enc3] at hu; subst hu; rw [Int.max_eq_left w0.1]; exact c0
      | 1, hu => simp [enc3] at hu; subst hu; exact c1
      | 2, hu => simp [enc3] at hu; subst hu; rw [Int.max_eq_left w2.1]; exact c2
      | j + 3, hu => simp [enc3] at hu)
    refine ⟨rs, ⟨flat_length enc3 3 enc3_len rs, some ⟨b, o, none⟩, c, by rw [hl], by rw [hl]; exact hnc, hcm, fun _ => ⟨b, o, rfl, hb, fun j hj => ?_⟩⟩, fun z hz => by obtain ⟨i, hi⟩ := List.mem_iff_getElem?.1 hz; exact (ht i z hi).2⟩
    have hlt : j / 3 < rs.length := by omega
    have hg := List.getElem?_eq_getElem hlt
    have h1 := flat_get enc3 3 enc3_len rs (j / 3) _ hg (j % 3) (by omega)
    rw [show j / 3 * 3 + j % 3 = j by omega] at h1
    have hm5 : j % 3 < (enc3 rs[j / 3]).length := by rw [enc3_len]; exact Nat.mod_lt _ (by omega)
    obtain ⟨u, hu⟩ : ∃ u, (enc3 rs[j / 3])[j % 3]? = some u := ⟨_, List.getElem?_eq_getElem hm5⟩
    have h2 := (ht (j / 3) _ hg).1 (j % 3) u hu
    rw [show j / 3 * 3 + j % 3 = j by omega] at h2
    rw [h2]
    exact (h1.trans hu).symm
end
/-- a list of samples that came in -/
def O3Arg (W : World) (v : Value) (l : List On3) : Prop := O3At W v l ∧ ∀ z ∈ l, On3Ok z
set_option maxRecDepth 100000 in
theorem open_arg14 {H : Type} {enc : TypeId × Value → H} {W : World} {base b0 : Nat} {spare : Nat → Bool} {held : Bool} {r : Reach} {v : Value} {d : DataW H} {p : List MemPlace} (hval : Value.okWide Tryd.prog W r b0 25 v)
    (h : DataW.Trod enc Tryd.prog W base spare held 25 v d p) : ∃ l, O3Arg W v l := by
  obtain ⟨A, len, cap, rfl⟩ := okWide_slice Tryd.underlying25 hval
  obtain ⟨k, hk⟩ := h
  have e : (Value.slice A len cap).cells.toList = [.slice A len cap] := by simp [Value.cells]
  rw [e] at hk
  exact open_ones14 hk

/-- lists of samples that came in -/
def LsArg (W : World) (v : Value) (ls : List (List On3)) : Prop := ∃ vs : List Value, SlAt W 1 v ls.length vs ∧ vs.length = ls.length ∧ ∀ (i : Nat) (l : List On3), ls[i]? = some l → ∃ u, vs[i]? = some u ∧ O3Arg W u l
set_option maxRecDepth 100000 in
theorem open_lists14 {H : Type} {enc : TypeId × Value → H} {W : World} {base b0 : Nat} {spare : Nat → Bool} {held : Bool} {r : Reach} {v : Value} {d : DataW H} {p : List MemPlace} (hval : Value.okWide Tryd.prog W r b0 22 v)
    (h : DataW.Trod enc Tryd.prog W base spare held 22 v d p) : ∃ ls, LsArg W v ls := by
  obtain ⟨A, len, cap, rfl⟩ := okWide_slice Tryd.underlying22 hval
  obtain ⟨k, hk⟩ := h
  have e : (Value.slice A len cap).cells.toList = [.slice A len cap] := by simp [Value.cells]
  rw [e] at hk
  obtain ⟨A, n, c, he, hnc, hcm, hx⟩ := open_ones_raw Tryd.underlying22 (by kernel_rfl) hk
  rw [he]
  rcases Nat.eq_zero_or_pos n with h0 | h0
  · subst h0
    exact ⟨[], [], ⟨rfl, A, c, rfl, hnc, hcm, fun h => absurd h (by simp)⟩, rfl, by simp⟩
  · obtain ⟨b, o, rfl, hb, hf⟩ := hx h0
    obtain ⟨rs, hl, ht⟩ := list_of (fun i (x : Value × List On3) => W.cell? ⟨b, o + i, none⟩ = some x.1 ∧ O3Arg W x.1 x.2) n (fun i hi => by
      obtain ⟨x0, y0, k0, c0, t0⟩ := hf i hi
      obtain ⟨l, hl, ho⟩ := open_ones14 t0
      exact ⟨(x0, l), c0, hl, ho⟩)
    refine ⟨rs.map (·.2), rs.map (·.1), ⟨by simp, some ⟨b, o, none⟩, c, by rw [List.length_map, hl], by rw [List.length_map, hl]; exact hnc, hcm, fun _ => ⟨b, o, rfl, hb, fun j hj => ?_⟩⟩, by simp, fun i l hi => ?_⟩
    · rw [List.length_map] at hj
      have hlt : j < rs.length := by omega
      have hg := List.getElem?_eq_getElem hlt
      rw [List.getElem?_map, hg]
      exact (ht j _ hg).1
    · rw [List.getElem?_map] at hi
      rcases hg : rs[i]? with _ | x
      · rw [hg] at hi; cases hi
      · rw [hg] at hi
        injection hi with hi
        subst hi
        exact ⟨x.1, by rw [List.getElem?_map, hg]; rfl, (ht i x hg).2⟩
theorem law_own : ownKnob Tryd.prog.godebug = none := by kernel_rfl
theorem law_laid : laidOutB Tryd.prog = true := by kernel_rfl
/-- the premise on package variables is not needed -/
theorem of_laid {W : World} (_ : laidMetH Tryd.prog [("unicode/utf8.acceptRanges", Rows.laid_unicode_utf8_acceptRanges), ("unicode/utf8.first", Rows.laid_unicode_utf8_first)] W) : True := trivial
/-- a laid heap meets the premise -/
theorem door_met (os : Os) (args : Array Value) : laidMetH Tryd.prog [("unicode/utf8.acceptRanges", Rows.laid_unicode_utf8_acceptRanges), ("unicode/utf8.first", Rows.laid_unicode_utf8_first)] ((World.laidAll Tryd.prog os [("unicode/utf8.acceptRanges", Rows.laid_unicode_utf8_acceptRanges), ("unicode/utf8.first", Rows.laid_unicode_utf8_first)]).forCall (fun _ _ => 0) ⟨#[], args, []⟩).memory := by
  rw [MakeChecks.laidMetH_plain _ _ _ (by kernel_rfl)]; exact laidMet_laidAll _ (by kernel_rfl) (by kernel_rfl)
end Go.Proofs.YtfimalbdlepfnaaDoor
