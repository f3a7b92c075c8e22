/-
  Layer 9: an argument that is a meta.
-/
import Derived.Test.YtdmhjejjgcfplaaMetK
import Derived.Test.YtdmhjejjgcfplaaLib2
namespace Go.Proofs.Ytdmhjejjgcfplaa
open Go.RowKit Go.Bar Go.Bar.Leb Go.Bar.Frm Go.Bar.Idt Go.Bar.Met
open Go.ChangeShapes Go.WideShapes Go.Deep

section
variable {H : Type} {enc : TypeId × Value → H} {P : Program} {w : World} {base : Nat} {spare : Nat → Bool} {held : Bool}
/-- a slice of structs of one-cell fields, by its cells -/
theorem open_fields_raw {t e : TypeId} {fs : Array Field} {x : Value} {y : DataW H × List MemPlace} {fuel : Nat} (ht : P.underlying t = some (.slice e)) (he : P.underlying e = some (.struct fs))
    (hone : oneCellFields P fs = true) (hC : P.cellsOf e = fs.size) (hpos : 0 < fs.size) (hf : DataW.trod enc P w base spare held fuel t [x] = some y) :
    ∃ (A : Option Addr) (n c : Nat), x = .slice A n c ∧ n ≤ c ∧ c ≤ maxLen ∧ (0 < n → ∃ b o, A = some ⟨b, o, none⟩ ∧ b < w.heap.size ∧
      ∀ i, i < n → ∀ (j : Nat) (f : Field), fs[j]? = some f → ∃ (x : Value) (y : DataW H × List MemPlace) (k : Nat), w.cell? ⟨b, o + (i * fs.size + j), none⟩ = some x ∧ DataW.trod enc P w base spare held k f.type [x] = some y) := by
  rcases open_slice ht hf with ⟨hcs, _⟩ | ⟨a, len, cap, m, n, D, Pl, hcs, _, hlc, hcm, hm, _, hi⟩
  · simp only [List.cons.injEq, and_true] at hcs
    subst hcs
    exact ⟨none, 0, 0, rfl, Nat.le_refl _, by decide, fun h => absurd h (Nat.lt_irrefl _)⟩
  · simp only [List.cons.injEq, and_true] at hcs
    subst hcs
    refine ⟨some a, len, cap, rfl, hlc, hcm, fun h0 => ?_⟩
    obtain ⟨b, o, spot⟩ := a
    have hread : ∀ i, i < len → ∀ (j : Nat) (f : Field), fs[j]? = some f → ∃ (x : Value) (y : DataW H × List MemPlace) (k : Nat), w.cell? ((Addr.add ⟨b, o, spot⟩ (i * fs.size)).add j) = some x ∧ DataW.trod enc P w base spare held k f.type [x] = some y := by
      intro i hil j f hj
      obtain ⟨cs, hc, hr⟩ := hi i (by rw [hm]; split <;> omega)
      rw [hC] at hc
      obtain ⟨_, hcl, hat⟩ := World.cells?_some hc
      obtain ⟨ys, k, _, _, _, hyl, hg⟩ := DataW.trod_struct he hr
      obtain ⟨ho, hk⟩ := hone_of hone j f hj
      have hjl : j < fs.size := (Array.getElem?_eq_some_iff.1 hj).1
      have h1 := hg j f hj
      rw [ho, hk] at h1
      have hone' : (cs.drop j).take 1 = [cs[j]'(by omega)] := by
        rw [List.drop_eq_getElem_cons (by omega)]
        rfl
      rw [hone'] at h1
      exact ⟨_, _, k, (hat j hjl).trans (List.getElem?_eq_getElem (by omega)), h1.trans (List.getElem?_eq_getElem (by omega))⟩
    have hspot : spot = none := by
      obtain ⟨x, y, k, hat, _⟩ := hread 0 h0 0 _ (Array.getElem?_eq_getElem hpos)
      rw [Nat.zero_mul, show ((Addr.add ⟨b, o, spot⟩ 0).add 0) = (⟨b, o, spot⟩ : Addr) by simp [Addr.add]] at hat
      exact World.cell?_spot hat
    subst hspot
    have hlt : b < w.heap.size := by
      obtain ⟨x, y, k, hat, _⟩ := hread 0 h0 0 _ (Array.getElem?_eq_getElem hpos)
      rw [addr_add, addr_add] at hat
      exact World.block_lt_of_cell? _ _ hat
    refine ⟨b, o, rfl, hlt, fun i hil j f hj => ?_⟩
    obtain ⟨x, y, k, hat, hr⟩ := hread i hil j f hj
    rw [addr_add, addr_add, Nat.add_assoc] at hat
    exact ⟨x, y, k, hat, hr⟩
/-- a slice of one-cell elements, by its cells -/
theorem open_ones_raw {t e : TypeId} {x : Value} {y : DataW H × List MemPlace} {fuel : Nat} (ht : P.underlying t = some (.slice e)) (hC : P.cellsOf e = 1) (hf : DataW.trod enc P w base spare held fuel t [x] = some y) :
    ∃ (A : Option Addr) (n c : Nat), x = .slice A n c ∧ n ≤ c ∧ c ≤ maxLen ∧ (0 < n → ∃ b o, A = some ⟨b, o, none⟩ ∧ b < w.heap.size ∧
      ∀ i, i < n → ∃ (x : Value) (y : DataW H × List MemPlace) (k : Nat), w.cell? ⟨b, o + i, none⟩ = some x ∧ DataW.trod enc P w base spare held k e [x] = some y) := by
  rcases open_slice ht hf with ⟨hcs, _⟩ | ⟨a, len, cap, m, n, D, Pl, hcs, _, hlc, hcm, hm, _, hi⟩
  · simp only [List.cons.injEq, and_true] at hcs
    subst hcs
    exact ⟨none, 0, 0, rfl, Nat.le_refl _, by decide, fun h => absurd h (Nat.lt_irrefl _)⟩
  · simp only [List.cons.injEq, and_true] at hcs
    subst hcs
    refine ⟨some a, len, cap, rfl, hlc, hcm, fun h0 => ?_⟩
    obtain ⟨b, o, spot⟩ := a
    have hread : ∀ i, i < len → ∃ (x : Value) (y : DataW H × List MemPlace) (k : Nat), w.cell? (Addr.add ⟨b, o, spot⟩ i) = some x ∧ DataW.trod enc P w base spare held k e [x] = some y := by
      intro i hil
      obtain ⟨cs, hc, hr⟩ := hi i (by rw [hm]; split <;> omega)
      rw [hC, Nat.mul_one] at hc
      obtain ⟨_, hcl, hat⟩ := World.cells?_some hc
      match cs, hcl with
      | [c0], _ =>
        have := hat 0 (by omega)
        rw [show (Addr.add ⟨b, o, spot⟩ i).add 0 = Addr.add ⟨b, o, spot⟩ i by simp [Addr.add]] at this
        exact ⟨c0, _, _, this, hr⟩
    have hspot : spot = none := by
      obtain ⟨x, y, k, hat, _⟩ := hread 0 h0
      rw [show (Addr.add ⟨b, o, spot⟩ 0) = (⟨b, o, spot⟩ : Addr) by simp [Addr.add]] at hat
      exact World.cell?_spot hat
    subst hspot
    have hlt : b < w.heap.size := by
      obtain ⟨x, y, k, hat, _⟩ := hread 0 h0
      rw [addr_add] at hat
      exact World.block_lt_of_cell? _ _ hat
    refine ⟨b, o, rfl, hlt, fun i hil => ?_⟩
    obtain ⟨x, y, k, hat, hr⟩ := hread i hil
    rw [addr_add] at hat
    exact ⟨x, y, k, hat, hr⟩
end

/-- a meta that came in -/
structure MetaAt (W : World) (m : Mt) (fv sv : Value) : Prop where
  fl : FlsAt W fv m.fs
  sr : SrcAt W sv m.ss
  id : m.id.length ≤ maxLen
  nm : ∀ f ∈ m.fs, f.name.length ≤ maxLen ∧ f.sum < 4294967296 ∧ -9223372036854775808 ≤ f.size ∧ f.size ≤ 9223372036854775807
  ss : ∀ s ∈ m.ss, s.length ≤ maxLen
  mn : -9223372036854775808 ≤ m.mn ∧ m.mn ≤ 9223372036854775807
  mx : -9223372036854775808 ≤ m.mx ∧ m.mx ≤ 9223372036854775807
  lv : -9223372036854775808 ≤ m.lv ∧ m.lv ≤ 9223372036854775807
  se : -9223372036854775808 ≤ m.sr ∧ m.sr ≤ 9223372036854775807
  sm : -9223372036854775808 ≤ m.sm ∧ m.sm ≤ 9223372036854775807
/-- the argument's value -/
def mtV (m : Mt) (fv sv : Value) : Value := .agg #[.string (bs m.id), .int .i64 m.mn, .int .i64 m.mx, .int .i64 m.lv, .int .i64 m.sr, .int .i64 m.sm, fv, sv]

section
variable {H : Type} {enc : TypeId × Value → H} {W : World} {base : Nat} {spare : Nat → Bool} {held : Bool}
theorem open_files {x : Value} {y : DataW H × List MemPlace} {fuel : Nat} (h : DataW.trod enc Try.prog W base spare held fuel 22 [x] = some y) : ∃ fs, FlsAt W x fs ∧ ∀ f ∈ fs, f.name.length ≤ maxLen ∧ f.sum < 4294967296 ∧ -9223372036854775808 ≤ f.size ∧ f.size ≤ 9223372036854775807 := by
  obtain ⟨A, n, c, rfl, hnc, hcm, hx⟩ := open_fields_raw Try.underlying22 Try.underlying45 (by kernel_rfl) (by kernel_rfl) (Nat.zero_lt_succ 2 : 0 < 3) h
  rcases Nat.eq_zero_or_pos n with h0 | h0
  · subst h0
    exact ⟨[], ⟨rfl, A, c, rfl, hnc, hcm, fun h => absurd h (by simp)⟩, by simp⟩
  · obtain ⟨b, o, rfl, hb, hf⟩ := hx h0
    obtain ⟨fs, hl, ht⟩ := list_of (fun i (f : Fl) => W.cell? ⟨b, o + i * 3, none⟩ = some (.string (bs f.name)) ∧ W.cell? ⟨b, o + (i * 3 + 1), none⟩ = some (.int .i64 f.size) ∧ W.cell? ⟨b, o + (i * 3 + 2), none⟩ = some (.int .u32 f.sum) ∧ (f.name.length ≤ maxLen ∧ f.sum < 4294967296 ∧ -9223372036854775808 ≤ f.size ∧ f.size ≤ 9223372036854775807)) n (fun i hi => by
      obtain ⟨x0, y0, k0, c0, t0⟩ := hf i hi 0 _ rfl
      obtain ⟨x1, y1, k1, c1, t1⟩ := hf i hi 1 _ rfl
      obtain ⟨x2, y2, k2, c2, t2⟩ := hf i hi 2 _ rfl
      obtain ⟨s0, e0, _, w0⟩ := DataW.trod_string Try.underlying9 t0
      obtain ⟨n1, e1, _, w1⟩ := DataW.trod_int Try.underlying3 t1
      obtain ⟨n2, e2, _, w2⟩ := DataW.trod_int Try.underlying43 t2
      replace e0 : x0 = _ := (List.cons.inj e0).1
      replace e1 : x1 = _ := (List.cons.inj e1).1
      replace e2 : x2 = _ := (List.cons.inj e2).1
      have b1 := bounds_i64 w1
      have b2 := bounds_u32 w2
      subst e0; subst e1; subst e2
      refine ⟨⟨s0.data.toList, n1, n2.toNat⟩, c0, c1, ?_, w0, by simp only; omega, b1⟩
      rw [show ((n2.toNat : Nat) : Int) = n2 by omega]; exact c2)
    refine ⟨fs, ⟨fcs_length fs, some ⟨b, o, none⟩, c, by rw [hl], by rw [hl]; exact hnc, hcm, fun _ => ⟨b, o, rfl, hb, fun j hj => ?_⟩⟩, fun f hf => by obtain ⟨i, hi⟩ := List.mem_iff_getElem?.1 hf; exact (ht i f hi).2.2.2⟩
    have hlt : j / 3 < fs.length := by omega
    have hg := List.getElem?_eq_getElem hlt
    obtain ⟨g0, g1, g2, _⟩ := ht _ _ hg
    obtain ⟨f0, f1, f2⟩ := fcs_at fs (j / 3) _ hg
    rcases (show j % 3 = 0 ∨ j % 3 = 1 ∨ j % 3 = 2 by omega) with hm | hm | hm
    · have e : j / 3 * 3 = j := by omega
      rw [e] at g0 f0
      exact g0.trans f0.symm
    · have e : j / 3 * 3 + 1 = j := by omega
      rw [e] at g1 f1
      exact g1.trans f1.symm
    · have e : j / 3 * 3 + 2 = j := by omega
      rw [e] at g2 f2
      exact g2.trans f2.symm
theorem open_texts {x : Value} {y : DataW H × List MemPlace} {fuel : Nat} (h : DataW.trod enc Try.prog W base spare held fuel 23 [x] = some y) : ∃ ss, SrcAt W x ss ∧ ∀ s ∈ ss, s.length ≤ maxLen := by
  obtain ⟨A, n, c, rfl, hnc, hcm, hx⟩ := open_ones_raw Try.underlying23 (by kernel_rfl) h
  rcases Nat.eq_zero_or_pos n with h0 | h0
  · subst h0
    exact ⟨[], ⟨rfl, A, c, rfl, hnc, hcm, fun h => absurd h (by simp)⟩, by simp⟩
  · obtain ⟨b, o, rfl, hb, hf⟩ := hx h0
    obtain ⟨ss, hl, ht⟩ := list_of (fun i (s : List UInt8) => W.cell? ⟨b, o + i, none⟩ = some (.string (bs s)) ∧ s.length ≤ maxLen) n (fun i hi => by
      obtain ⟨x0, y0, k0, c0, t0⟩ := hf i hi
      obtain ⟨s0, e0, _, w0⟩ := DataW.trod_string Try.underlying9 t0
      replace e0 : x0 = _ := (List.cons.inj e0).1
      subst e0
      exact ⟨s0.data.toList, c0, w0⟩)
    refine ⟨ss, ⟨by rw [scs_length, Nat.mul_one], some ⟨b, o, none⟩, c, by rw [hl], by rw [hl]; exact hnc, hcm, fun _ => ⟨b, o, rfl, hb, fun j hj => ?_⟩⟩, fun s hs => by obtain ⟨i, hi⟩ := List.mem_iff_getElem?.1 hs; exact (ht i s hi).2⟩
    have hlt : j < ss.length := by omega
    have hg := List.getElem?_eq_getElem hlt
    rw [(ht _ _ hg).1]
    unfold scs
    rw [List.getElem?_map, hg]
    rfl

theorem open_meta {b0 : Nat} {r : Reach} {v : Value} {d : DataW H} {p : List MemPlace} (hval : Value.okWide Try.prog W r b0 25 v) (h : DataW.Trod enc Try.prog W base spare held 25 v d p) : ∃ m fv sv, v = mtV m fv sv ∧ MetaAt W m fv sv := by
  obtain ⟨cs, rfl, hsz⟩ := okWide_struct Try.underlying25 hval
  have hC : Try.prog.cellsOf 25 = 8 := by kernel_rfl
  rw [hC] at hsz
  obtain ⟨fuel, hf⟩ := h
  obtain ⟨ys, k, _, _, _, hyl, hg⟩ := DataW.trod_struct Try.underlying25 hf
  have h1 : Try.prog.cellsOf 9 = 1 := by kernel_rfl
  have h2 : Try.prog.cellsOf 2 = 1 := by kernel_rfl
  have h3 : Try.prog.cellsOf 3 = 1 := by kernel_rfl
  have h4 : Try.prog.cellsOf 22 = 1 := by kernel_rfl
  have h5 : Try.prog.cellsOf 23 = 1 := by kernel_rfl
  obtain ⟨l⟩ := cs
  match l, hsz, ys, hyl with
  | [c0, c1, c2, c3, c4, c5, c6, c7], _, [y0, y1, y2, y3, y4, y5, y6, y7], _ =>
    have g0 : DataW.trod enc Try.prog W base spare held k 9 (([c0, c1, c2, c3, c4, c5, c6, c7].drop 0).take (Try.prog.cellsOf 9)) = some y0 := hg 0 _ rfl
    have g1 : DataW.trod enc Try.prog W base spare held k 2 (([c0, c1, c2, c3, c4, c5, c6, c7].drop 1).take (Try.prog.cellsOf 2)) = some y1 := hg 1 _ rfl
    have g2 : DataW.trod enc Try.prog W base spare held k 2 (([c0, c1, c2, c3, c4, c5, c6, c7].drop 2).take (Try.prog.cellsOf 2)) = some y2 := hg 2 _ rfl
    have g3 : DataW.trod enc Try.prog W base spare held k 3 (([c0, c1, c2, c3, c4, c5, c6, c7].drop 3).take (Try.prog.cellsOf 3)) = some y3 := hg 3 _ rfl
    have g4 : DataW.trod enc Try.prog W base spare held k 3 (([c0, c1, c2, c3, c4, c5, c6, c7].drop 4).take (Try.prog.cellsOf 3)) = some y4 := hg 4 _ rfl
    have g5 : DataW.trod enc Try.prog W base spare held k 3 (([c0, c1, c2, c3, c4, c5, c6, c7].drop 5).take (Try.prog.cellsOf 3)) = some y5 := hg 5 _ rfl
    have g6 : DataW.trod enc Try.prog W base spare held k 22 (([c0, c1, c2, c3, c4, c5, c6, c7].drop 6).take (Try.prog.cellsOf 22)) = some y6 := hg 6 _ rfl
    have g7 : DataW.trod enc Try.prog W base spare held k 23 (([c0, c1, c2, c3, c4, c5, c6, c7].drop 7).take (Try.prog.cellsOf 23)) = some y7 := hg 7 _ rfl
    rw [h1] at g0
    rw [h2] at g1 g2
    rw [h3] at g3 g4 g5
    rw [h4] at g6
    rw [h5] at g7
    obtain ⟨s0, e0, _, w0⟩ := DataW.trod_string Try.underlying9 g0
    obtain ⟨n1, e1, _, w1⟩ := DataW.trod_int Try.underlying2 g1
    obtain ⟨n2, e2, _, w2⟩ := DataW.trod_int Try.underlying2 g2
    obtain ⟨n3, e3, _, w3⟩ := DataW.trod_int Try.underlying3 g3
    obtain ⟨n4, e4, _, w4⟩ := DataW.trod_int Try.underlying3 g4
    obtain ⟨n5, e5, _, w5⟩ := DataW.trod_int Try.underlying3 g5
    obtain ⟨fs, hfs, hfb⟩ := open_files (show DataW.trod enc Try.prog W base spare held k 22 [c6] = some y6 from g6)
    obtain ⟨ss, hss, hsb⟩ := open_texts (show DataW.trod enc Try.prog W base spare held k 23 [c7] = some y7 from g7)
    replace e0 : c0 = _ := (List.cons.inj e0).1
    replace e1 : c1 = _ := (List.cons.inj e1).1
    replace e2 : c2 = _ := (List.cons.inj e2).1
    replace e3 : c3 = _ := (List.cons.inj e3).1
    replace e4 : c4 = _ := (List.cons.inj e4).1
    replace e5 : c5 = _ := (List.cons.inj e5).1
    subst e0; subst e1; subst e2; subst e3; subst e4; subst e5
    exact ⟨⟨s0.data.toList, n1, n2, n3, n4, n5, fs, ss⟩, c6, c7, rfl, hfs, hss, w0, hfb, hsb, bounds_i64 w1, bounds_i64 w2, bounds_i64 w3, bounds_i64 w4, bounds_i64 w5⟩
end

/-- an argument that is a meta -/
def MetaArg (W : World) (v : Value) (x : Mt × Value × Value) : Prop := v = mtV x.1 x.2.1 x.2.2 ∧ MetaAt W x.1 x.2.1 x.2.2
theorem open_metaV {H : Type} {enc : TypeId × Value → H} {W : World} {base : Nat} {spare : Nat → Bool} {held : Bool} {b0 : Nat} {r : Reach} {v : Value} {d : DataW H} {p : List MemPlace} (hval : Value.okWide Try.prog W r b0 25 v) (h : DataW.Trod enc Try.prog W base spare held 25 v d p) : ∃ x, MetaArg W v x := by
  obtain ⟨m, fv, sv, h1, h2⟩ := open_meta hval h
  exact ⟨(m, fv, sv), h1, h2⟩
theorem law_own : ownKnob Try.prog.godebug = none := by kernel_rfl
theorem law_laid : laidOutB Try.prog = true := by kernel_rfl

end Go.Proofs.Ytdmhjejjgcfplaa
