/-
  Layer 6: pairs as arguments; what the laws' frames take.
-/
import Derived.Test.YtpjicajifdandaaDoorLabI
import Derived.Test.YtpjicajifdandaaDoorLib2
import Derived.Test.YtpjicajifdandaaDoorRows
import Derived.LaidMore
import Derived.Lay
import Derived.Stop.Joined
import Derived.ChangeSame
namespace Go.Proofs.YtpjicajifdandaaDoor
open Go.RowKit Go.Bar Go.Bar.Leb Go.Bar.Lab Go.ChangeShapes Go.WideShapes Go.ChangeAt

/-- pairs that came in -/
def PsArg (W : World) (v : Value) (l : List Pr) : Prop := PsAt W v l ∧ ∀ p ∈ l, p.1.length ≤ maxLen ∧ p.2.length ≤ maxLen

set_option maxRecDepth 10000 in
theorem open_pairs {H : Type} {enc : TypeId × Value → H} {W : World} {base b0 : Nat} {spare : Nat → Bool} {held : Bool} {r : Reach} {v : Value} {d : DataW H} {p : List MemPlace} (hval : Value.okWide Tryd.prog W r b0 22 v)
    (h : DataW.Trod enc Tryd.prog W base spare held 22 v d p) : ∃ l, PsArg W v l := by
  obtain ⟨A, n, c, rfl, hnc, hcm, hx⟩ := open_slice_fields Tryd.underlying22 Tryd.underlying57 (by kernel_rfl) (by kernel_rfl) (Nat.zero_lt_succ 1 : 0 < 2) hval h
  rcases Nat.eq_zero_or_pos n with h0 | h0
  · subst h0
    exact ⟨[], ⟨rfl, A, c, rfl, hnc, hcm, fun h => absurd h (by simp)⟩, by simp⟩
  · obtain ⟨b, o, rfl, hb, hf⟩ := hx h0
    obtain ⟨rs, hl, ht⟩ := list_of (fun i (r : Pr) => W.cell? ⟨b, o + i * 2, none⟩ = some (.string (bs r.1)) ∧ W.cell? ⟨b, o + i * 2 + 1, none⟩ = some (.string (bs r.2)) ∧ r.1.length ≤ maxLen ∧ r.2.length ≤ maxLen) n (fun i hi => by
      obtain ⟨x0, y0, k0, c0, t0⟩ := hf i hi 0 _ rfl
      obtain ⟨x1, y1, k1, c1, t1⟩ := hf i hi 1 _ rfl
      obtain ⟨s0, e0, _, w0⟩ := DataW.trod_string Tryd.underlying9 t0
      obtain ⟨s1, e1, _, w1⟩ := DataW.trod_string Tryd.underlying9 t1
      replace e0 : x0 = _ := (List.cons.inj e0).1
      replace e1 : x1 = _ := (List.cons.inj e1).1
      subst e0; subst e1
      refine ⟨(s0.data.toList, s1.data.toList), c0, ?_, w0, w1⟩
      rw [Nat.add_assoc]; exact c1)
    refine ⟨rs, ⟨flat2_length _ _ rs, some ⟨b, o, none⟩, c, by rw [hl], by rw [hl]; exact hnc, hcm, fun _ => ⟨b, o, rfl, hb, fun j hj => ?_⟩⟩, fun r hr => by obtain ⟨i, hi⟩ := List.mem_iff_getElem?.1 hr; exact (ht i r hi).2.2⟩
    have hlt : j / 2 < rs.length := by omega
    have hg := List.getElem?_eq_getElem hlt
    obtain ⟨g0, g1, _⟩ := ht _ _ hg
    obtain ⟨f0, f1⟩ := flat2 (fun x : Pr => Value.string (bs x.1)) (fun x : Pr => Value.string (bs x.2)) rs (j / 2) _ hg
    rcases Nat.mod_two_eq_zero_or_one j with hm | hm
    · have e : j / 2 * 2 = j := by omega
      rw [e] at g0 f0
      exact g0.trans f0.symm
    · have e : j / 2 * 2 + 1 = j := by omega
      rw [Nat.add_assoc, e] at g1
      rw [e] at f1
      exact g1.trans f1.symm

theorem law_own : ownKnob Tryd.prog.godebug = none := by kernel_rfl
theorem law_laid : laidOutB Tryd.prog = true := by kernel_rfl
/-- the premise on package variables is not needed -/
theorem of_laid {W : World} (_ : laidMetH Tryd.prog [("unicode/utf8.acceptRanges", Rows.laid_unicode_utf8_acceptRanges), ("unicode/utf8.first", Rows.laid_unicode_utf8_first)] W) : True := trivial
/-- a laid heap meets the premise -/
theorem door_met (os : Os) (args : Array Value) : laidMetH Tryd.prog [("unicode/utf8.acceptRanges", Rows.laid_unicode_utf8_acceptRanges), ("unicode/utf8.first", Rows.laid_unicode_utf8_first)] ((World.laidAll Tryd.prog os [("unicode/utf8.acceptRanges", Rows.laid_unicode_utf8_acceptRanges), ("unicode/utf8.first", Rows.laid_unicode_utf8_first)]).forCall (fun _ _ => 0) ⟨#[], args, []⟩).memory := by
  rw [MakeChecks.laidMetH_plain _ _ _ (by kernel_rfl)]; exact laidMet_laidAll _ (by kernel_rfl) (by kernel_rfl)

end Go.Proofs.YtpjicajifdandaaDoor
