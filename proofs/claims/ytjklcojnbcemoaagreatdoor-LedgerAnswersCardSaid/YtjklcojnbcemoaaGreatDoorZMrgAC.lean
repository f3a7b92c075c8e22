/-
  Layer 14: tables of few and small tables; the laws' awake.
-/
import Derived.Test.YtjklcojnbcemoaaGreatDoorZMrgQ
import Derived.Test.YtjklcojnbcemoaaGreatDoorZMrgD
import Derived.Test.YtjklcojnbcemoaaGreatDoorZMrgA
import Derived.Test.YtjklcojnbcemoaaGreatDoorZMrgAA
import Derived.Test.YtjklcojnbcemoaaGreatDoorZLib2
import Derived.Test.YtjklcojnbcemoaaGreatDoorRows
import Derived.LaidMore
import Derived.Lay
import Derived.Stop.Joined
import Derived.ChangeSame

namespace Go.Proofs.YtjklcojnbcemoaaGreatDoor
open Go.RowKit Go.Bar Go.Bar.Leb Go.Bar.Lab Go.Bar.Xor Go.Bar.Mrg

theorem tot_append (a b : List Ev) : tot (a ++ b) = tot a + tot b := by unfold tot; rw [List.map_append, List.sum_append]
theorem evsK_small {m p : Nat} : ∀ {ls : List (List Row)} {k : Nat}, (∀ R ∈ ls, R.length ≤ m ∧ ∀ r ∈ R, r.2.length ≤ p) → (evsK k ls).length ≤ ls.length * m ∧ tot (evsK k ls) ≤ ls.length * m * p
  | [], k, _ => by simp [evsK, tot]
  | R :: ls, k, h => by
    obtain ⟨h1, h2⟩ := evsK_small (k := k + 1) fun X hX => h X (List.mem_cons_of_mem _ hX)
    obtain ⟨r1, r2⟩ := h R (List.mem_cons_self ..)
    have e : evsK k (R :: ls) = R.map (fun x => (x, k)) ++ evsK (k + 1) ls := rfl
    have ht : tot (R.map (fun x => (x, k))) ≤ R.length * p := by
      clear r1 e h h1 h2
      induction R with
      | nil => simp [tot]
      | cons r R ih =>
        have i1 := ih fun x hx => r2 x (List.mem_cons_of_mem _ hx)
        have i2 := r2 r (List.mem_cons_self ..)
        have e : tot ((r :: R).map (fun x => (x, k))) = r.2.length + tot (R.map (fun x => (x, k))) := by unfold tot; rfl
        rw [e, List.length_cons, Nat.add_mul]
        omega
    rw [e, List.length_append, tot_append, List.length_map, List.length_cons, Nat.add_mul, Nat.one_mul, Nat.add_mul]
    have h3 : R.length * p ≤ m * p := Nat.mul_le_mul_right _ r1
    exact ⟨by omega, by omega⟩
theorem tables_of (v : Value) (tv : List (List Rv)) (w : World) (h : TsAt w v tv) (hr : ∀ t ∈ tv, Rls (t.map plR)) (q m p : Nat) (hq : tv.length ≤ q) (hm : ∀ t ∈ tv, t.length ≤ m ∧ ∀ x ∈ t, x.ls.length ≤ 1000000 ∧ x.ss.length ≤ p) (h0 : q ≤ 1000) (h1 : q * m ≤ 1000000) (h2 : q * m * p ≤ 10000000) :
    Calls Tryz.prog 9 #[v] w (RetTab w tv) := by
  have hs := evsK_small (m := m) (p := p) (ls := plT tv) (k := 0) fun R hR => by
    obtain ⟨t, ht, rfl⟩ := List.mem_map.1 hR
    refine ⟨by rw [List.length_map]; exact (hm t ht).1, fun r hr => ?_⟩
    obtain ⟨x, hx, rfl⟩ := List.mem_map.1 hr
    exact ((hm t ht).2 x hx).2
  have hl : (plT tv).length = tv.length := by unfold plT; rw [List.length_map]
  rw [hl] at hs
  have a1 : tv.length * m ≤ q * m := Nat.mul_le_mul_right _ hq
  have a2 : tv.length * m * p ≤ q * m * p := Nat.mul_le_mul_right _ a1
  exact tables_any v tv w h (by omega) (by unfold evs; omega) (by unfold evs; omega) hr fun t ht x hx => ((hm t ht).2 x hx).1
theorem TsAt.lit {w : World} (T : TypeId) (vs : List Value) (tv : List (List Rv)) (n : Nat) (hn : tv.length = n) (hl : vs.length = n) (hk : n ≤ maxLen) (h : ∀ (i : Nat) (t : List Rv), tv[i]? = some t → ∃ A c, vs[i]? = some (.slice A t.length c) ∧ TbAt w (.slice A t.length c) t) : TsAt (w.alloc (.cells vs.toArray T)) (.slice (some ⟨w.heap.size, 0, none⟩) n n) tv := by
  subst hn
  refine ⟨vs, hl, SlAt.of_buf (Buf.lit w T 1 tv.length vs (by omega) hk), fun i t ht => ?_⟩
  obtain ⟨A, c, e, hb⟩ := h i t ht
  exact ⟨A, c, e, hb.below (below_alloc1 _ _)⟩
theorem tabs_lab5 {t : List Rv} {R : List Row} {l : List On3} (h : t.map plR = R) (hR : R = tab3 l) : t.length ≤ 40 ∧ ∀ x ∈ t, x.ls.length ≤ 2 ∧ x.ss.length ≤ 40 := by
  obtain ⟨h1, h2⟩ := tab3_bound (l.take 40)
  have e : addAll [] ((l.take 40).map pt3) = t.map plR := by rw [h, hR]; rfl
  rw [e, List.length_map, List.length_take] at h1
  rw [e, List.length_take] at h2
  refine ⟨by omega, fun x hx => ?_⟩
  have := h2 (plR x) (List.mem_map_of_mem hx)
  exact ⟨this.1, by have h3 : x.ss.length ≤ min 40 l.length := this.2
                    omega⟩
def awA : List On3 := [⟨0, 10, 1⟩, ⟨0, 20, 1⟩]
def awB : List On3 := [⟨0, 20, 1⟩, ⟨0, 30, 1⟩, ⟨3, 5, 1⟩]
theorem aw_two {t1 t2 t3 : List Rv} (h1 : t1.map plR = tab3 awA) (h2 : t2.map plR = tab3 awB) (h : FinTab [t1, t2] t3) : ∃ x y, t3 = [x, y] ∧ x.ss.length = 3 ∧ y.ss.length = 1 ∧ cntR (t3.map plR) = 4 := by
  have h3 := want_tabs h.tabs (ls := plT [t1, t2]) (by
    show ∀ x ∈ [t1.map plR, t2.map plR], Tb x
    rw [h1, h2]
    exact all2 (tab3_tb _) (tab3_tb _))
  have e : addAll [] ((plT [t1, t2]).flatMap ptsOf) = [(lab5 0, [(10, 1), (20, 1), (30, 1)]), (lab5 3, [(5, 1)])] := by
    show addAll [] ([t1.map plR, t2.map plR].flatMap ptsOf) = _
    rw [h1, h2]
    decide +kernel
  rw [e] at h3
  rcases t3 with _ | ⟨x, _ | ⟨y, _ | ⟨z, r⟩⟩⟩
  · cases h3
  · simp at h3
  · have hx : plR x = (lab5 0, [(10, 1), (20, 1), (30, 1)]) := by simp at h3; exact h3.1
    have hy : plR y = (lab5 3, [(5, 1)]) := by simp at h3; exact h3.2
    refine ⟨x, y, rfl, ?_, ?_, ?_⟩
    · rw [show x.ss = (plR x).2 from rfl, hx]; rfl
    · rw [show y.ss = (plR y).2 from rfl, hy]; rfl
    · rw [h3]; rfl
  · simp at h3

end Go.Proofs.YtjklcojnbcemoaaGreatDoor

/-
  Arguments: slices opened by their cells, without the argument's own shape. Plain lemmas over any program; no condition.
-/
namespace Go.Bar
open Go.RowKit Go.ChangeShapes Go.WideShapes Go.Deep

section
variable {H : Type} {enc : TypeId × Value → H} {P : Program} {w : World} {base : Nat} {spare : Nat → Bool} {held : Bool}
/-- a slice of structs of one-cell fields, by its cells -/
theorem open_fields_raw {t e : TypeId} {fs : Array Field} {x : Value} {y : DataW H × List MemPlace} {fuel : Nat} (ht : P.underlying t = some (.slice e)) (he : P.underlying e = some (.struct fs))
    (hone : oneCellFields P fs = true) (hC : P.cellsOf e = fs.size) (hpos : 0 < fs.size) (hf : DataW.trod enc P w base spare held fuel t [x] = some y) :
    ∃ (A : Option Addr) (n c : Nat), x = .slice A n c ∧ n ≤ c ∧ c ≤ maxLen ∧ (0 < n → ∃ b o, A = some ⟨b, o, none⟩ ∧ b < w.heap.size ∧
      ∀ i, i < n → ∀ (j : Nat) (f : Field), fs[j]? = some f → ∃ (x : Value) (y : DataW H × List MemPlace) (k : Nat), w.cell? ⟨b, o + (i * fs.size + j), none⟩ = some x ∧ DataW.trod enc P w base spare held k f.type [x] = some y) := by
  rcases open_slice ht hf with ⟨hcs, _⟩ | ⟨a, len, cap, m, n, D, Pl, hcs, _, hlc, hcm, hm, _, hi⟩
  · simp only [List.cons.injEq, and_true] at hcs
    subst hcs
    exact ⟨none, 0, 0, rfl, Nat.le_refl _, by decide, fun h => absurd h (Nat.lt_irrefl _)⟩
  · simp only [List.cons.injEq, and_true] at hcs
    subst hcs
    refine ⟨some a, len, cap, rfl, hlc, hcm, fun h0 => ?_⟩
    obtain ⟨b, o, spot⟩ := a
    have hread : ∀ i, i < len → ∀ (j : Nat) (f : Field), fs[j]? = some f → ∃ (x : Value) (y : DataW H × List MemPlace) (k : Nat), w.cell? ((Addr.add ⟨b, o, spot⟩ (i * fs.size)).add j) = some x ∧ DataW.trod enc P w base spare held k f.type [x] = some y := by
      intro i hil j f hj
      obtain ⟨cs, hc, hr⟩ := hi i (by rw [hm]; split <;> omega)
      rw [hC] at hc
      obtain ⟨_, hcl, hat⟩ := World.cells?_some hc
      obtain ⟨ys, k, _, _, _, hyl, hg⟩ := DataW.trod_struct he hr
      obtain ⟨ho, hk⟩ := hone_of hone j f hj
      have hjl : j < fs.size := (Array.getElem?_eq_some_iff.1 hj).1
      have h1 := hg j f hj
      rw [ho, hk] at h1
      have hone' : (cs.drop j).take 1 = [cs[j]'(by omega)] := by
        rw [List.drop_eq_getElem_cons (by omega)]
        rfl
      rw [hone'] at h1
      exact ⟨_, _, k, (hat j hjl).trans (List.getElem?_eq_getElem (by omega)), h1.trans (List.getElem?_eq_getElem (by omega))⟩
    have hspot : spot = none := by
      obtain ⟨x, y, k, hat, _⟩ := hread 0 h0 0 _ (Array.getElem?_eq_getElem hpos)
      rw [Nat.zero_mul, show ((Addr.add ⟨b, o, spot⟩ 0).add 0) = (⟨b, o, spot⟩ : Addr) by simp [Addr.add]] at hat
      exact World.cell?_spot hat
    subst hspot
    have hlt : b < w.heap.size := by
      obtain ⟨x, y, k, hat, _⟩ := hread 0 h0 0 _ (Array.getElem?_eq_getElem hpos)
      rw [addr_add, addr_add] at hat
      exact World.block_lt_of_cell? _ _ hat
    refine ⟨b, o, rfl, hlt, fun i hil j f hj => ?_⟩
    obtain ⟨x, y, k, hat, hr⟩ := hread i hil j f hj
    rw [addr_add, addr_add, Nat.add_assoc] at hat
    exact ⟨x, y, k, hat, hr⟩
/-- a slice of one-cell elements, by its cells -/
theorem open_ones_raw {t e : TypeId} {x : Value} {y : DataW H × List MemPlace} {fuel : Nat} (ht : P.underlying t = some (.slice e)) (hC : P.cellsOf e = 1) (hf : DataW.trod enc P w base spare held fuel t [x] = some y) :
    ∃ (A : Option Addr) (n c : Nat), x = .slice A n c ∧ n ≤ c ∧ c ≤ maxLen ∧ (0 < n → ∃ b o, A = some ⟨b, o, none⟩ ∧ b < w.heap.size ∧
      ∀ i, i < n → ∃ (x : Value) (y : DataW H × List MemPlace) (k : Nat), w.cell? ⟨b, o + i, none⟩ = some x ∧ DataW.trod enc P w base spare held k e [x] = some y) := by
  rcases open_slice ht hf with ⟨hcs, _⟩ | ⟨a, len, cap, m, n, D, Pl, hcs, _, hlc, hcm, hm, _, hi⟩
  · simp only [List.cons.injEq, and_true] at hcs
    subst hcs
    exact ⟨none, 0, 0, rfl, Nat.le_refl _, by decide, fun h => absurd h (Nat.lt_irrefl _)⟩
  · simp only [List.cons.injEq, and_true] at hcs
    subst hcs
    refine ⟨some a, len, cap, rfl, hlc, hcm, fun h0 => ?_⟩
    obtain ⟨b, o, spot⟩ := a
    have hread : ∀ i, i < len → ∃ (x : Value) (y : DataW H × List MemPlace) (k : Nat), w.cell? (Addr.add ⟨b, o, spot⟩ i) = some x ∧ DataW.trod enc P w base spare held k e [x] = some y := by
      intro i hil
      obtain ⟨cs, hc, hr⟩ := hi i (by rw [hm]; split <;> omega)
      rw [hC, Nat.mul_one] at hc
      obtain ⟨_, hcl, hat⟩ := World.cells?_some hc
      match cs, hcl with
      | [c0], _ =>
        have := hat 0 (by omega)
        rw [show (Addr.add ⟨b, o, spot⟩ i).add 0 = Addr.add ⟨b, o, spot⟩ i by simp [Addr.add]] at this
        exact ⟨c0, _, _, this, hr⟩
    have hspot : spot = none := by
      obtain ⟨x, y, k, hat, _⟩ := hread 0 h0
      rw [show (Addr.add ⟨b, o, spot⟩ 0) = (⟨b, o, spot⟩ : Addr) by simp [Addr.add]] at hat
      exact World.cell?_spot hat
    subst hspot
    have hlt : b < w.heap.size := by
      obtain ⟨x, y, k, hat, _⟩ := hread 0 h0
      rw [addr_add] at hat
      exact World.block_lt_of_cell? _ _ hat
    refine ⟨b, o, rfl, hlt, fun i hil => ?_⟩
    obtain ⟨x, y, k, hat, hr⟩ := hread i hil
    rw [addr_add] at hat
    exact ⟨x, y, k, hat, hr⟩
end
end Go.Bar

/-
  Layer 14: the laws' arguments; what their frames take.
-/
namespace Go.Proofs.YtjklcojnbcemoaaGreatDoor
open Go.RowKit Go.Bar Go.Bar.Leb Go.Bar.Lab Go.Bar.Xor Go.Bar.Mrg Go.ChangeShapes Go.WideShapes Go.ChangeAt

section
variable {H : Type} {enc : TypeId × Value → H} {W : World} {base : Nat} {spare : Nat → Bool} {held : Bool}
/-- what an argument's numbers lie within -/
def On3Ok (x : On3) : Prop := x.nm < 256 ∧ (-9223372036854775808 ≤ x.t ∧ x.t ≤ 9223372036854775807) ∧ x.v < 18446744073709551616
theorem open_ones14 {x : Value} {y : DataW H × List MemPlace} {fuel : Nat} (h : DataW.trod enc Tryz.prog W base spare held fuel 22 [x] = some y) : ∃ l, O3At W x l ∧ ∀ z ∈ l, On3Ok z := by
  obtain ⟨A, n, c, rfl, hnc, hcm, hx⟩ := open_fields_raw Tryz.underlying22 Tryz.underlying57 (by kernel_rfl) (by kernel_rfl) (Nat.zero_lt_succ 2 : 0 < 3) h
  rcases Nat.eq_zero_or_pos n with h0 | h0
  · subst h0
    exact ⟨[], ⟨rfl, A, c, rfl, hnc, hcm, fun h => absurd h (by simp)⟩, by simp⟩
  · obtain ⟨b, o, rfl, hb, hf⟩ := hx h0
    obtain ⟨rs, hl, ht⟩ := list_of (fun i (x : On3) => (∀ j u, (enc3 x)[j]? = some u → W.cell? ⟨b, o + (i * 3 + j), none⟩ = some u) ∧ On3Ok x) n (fun i hi => by
      obtain ⟨x0, y0, k0, c0, t0⟩ := hf i hi 0 _ rfl
      obtain ⟨x1, y1, k1, c1, t1⟩ := hf i hi 1 _ rfl
      obtain ⟨x2, y2, k2, c2, t2⟩ := hf i hi 2 _ rfl
      obtain ⟨n0, e0, _, w0⟩ := DataW.trod_int Tryz.underlying5 t0
      obtain ⟨n1, e1, _, w1⟩ := DataW.trod_int Tryz.underlying2 t1
      obtain ⟨n2, e2, _, w2⟩ := DataW.trod_int Tryz.underlying40 t2
      replace e0 : x0 = _ := (List.cons.inj e0).1
      replace e1 : x1 = _ := (List.cons.inj e1).1
      replace e2 : x2 = _ := (List.cons.inj e2).1
      subst e0; subst e1; subst e2
      have w0 := bounds_u8 w0
      have w2 := bounds_u64 w2
      refine ⟨⟨n0.toNat, n1, n2.toNat⟩, fun j u hu => ?_, by show n0.toNat < 256; omega, bounds_i64 w1, by show n2.toNat < 18446744073709551616; omega⟩
      match j, hu with
      | 0, hu => simp [enc3] at hu; subst hu; rw [Int.max_eq_left w0.1]; exact c0
      | 1, hu => simp [enc3] at hu; subst hu; exact c1
      | 2, hu => simp [enc3] at hu; subst hu; rw [Int.max_eq_left w2.1]; exact c2
      | j + 3, hu => simp [enc3] at hu)
    refine ⟨rs, ⟨flat_length enc3 3 enc3_len rs, some ⟨b, o, none⟩, c, by rw [hl], by rw [hl]; exact hnc, hcm, fun _ => ⟨b, o, rfl, hb, fun j hj => ?_⟩⟩, fun z hz => by obtain ⟨i, hi⟩ := List.mem_iff_getElem?.1 hz; exact (ht i z hi).2⟩
    have hlt : j / 3 < rs.length := by omega
    have hg := List.getElem?_eq_getElem hlt
    have h1 := flat_get enc3 3 enc3_len rs (j / 3) _ hg (j % 3) (by omega)
    rw [show j / 3 * 3 + j % 3 = j by omega] at h1
    have hm5 : j % 3 < (enc3 rs[j / 3]).length := by rw [enc3_len]; exact Nat.mod_lt _ (by omega)
    obtain ⟨u, hu⟩ : ∃ u, (enc3 rs[j / 3])[j % 3]? = some u := ⟨_, List.getElem?_eq_getElem hm5⟩
    have h2 := (ht (j / 3) _ hg).1 (j % 3) u hu
    rw [show j / 3 * 3 + j % 3 = j by omega] at h2
    rw [h2]
    exact (h1.trans hu).symm
end
/-- a list of samples that came in -/
def O3Arg (W : World) (v : Value) (l : List On3) : Prop := O3At W v l ∧ ∀ z ∈ l, On3Ok z
set_option maxRecDepth 100000 in
theorem open_arg14 {H : Type} {enc : TypeId × Value → H} {W : World} {base b0 : Nat} {spare : Nat → Bool} {held : Bool} {r : Reach} {v : Value} {d : DataW H} {p : List MemPlace} (hval : Value.okWide Tryz.prog W r b0 22 v)
    (h : DataW.Trod enc Tryz.prog W base spare held 22 v d p) : ∃ l, O3Arg W v l := by
  obtain ⟨A, len, cap, rfl⟩ := okWide_slice Tryz.underlying22 hval
  obtain ⟨k, hk⟩ := h
  have e : (Value.slice A len cap).cells.toList = [.slice A len cap] := by simp [Value.cells]
  rw [e] at hk
  exact open_ones14 hk

theorem law_own : ownKnob Tryz.prog.godebug = none := by kernel_rfl
theorem law_laid : laidOutB Tryz.prog = true := by kernel_rfl
/-- the premise on package variables is not needed -/
theorem of_laid {W : World} (_ : laidMetH Tryz.prog [("unicode/utf8.acceptRanges", Rows.laid_unicode_utf8_acceptRanges), ("unicode/utf8.first", Rows.laid_unicode_utf8_first)] W) : True := trivial
/-- a laid heap meets the premise -/
theorem door_met (os : Os) (args : Array Value) : laidMetH Tryz.prog [("unicode/utf8.acceptRanges", Rows.laid_unicode_utf8_acceptRanges), ("unicode/utf8.first", Rows.laid_unicode_utf8_first)] ((World.laidAll Tryz.prog os [("unicode/utf8.acceptRanges", Rows.laid_unicode_utf8_acceptRanges), ("unicode/utf8.first", Rows.laid_unicode_utf8_first)]).forCall (fun _ _ => 0) ⟨#[], args, []⟩).memory := by
  rw [MakeChecks.laidMetH_plain _ _ _ (by kernel_rfl)]; exact laidMet_laidAll _ (by kernel_rfl) (by kernel_rfl)
end Go.Proofs.YtjklcojnbcemoaaGreatDoor
