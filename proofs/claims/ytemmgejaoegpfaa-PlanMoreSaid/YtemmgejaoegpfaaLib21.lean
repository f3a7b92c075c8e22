/-
  Maps from texts to ints (Lib17): the look-up as an equation; a range over one. Plain lemmas over any program; no condition.
-/
import Derived.Test.YtemmgejaoegpfaaLib17
namespace Go.Bar
open Go.RowKit

theorem MpAt.run_lookup {P : Program} {t k e : TypeId} {w : World} {b n : Nat} {f : List UInt8 → Option Int} (h : MpAt P k e w b n f) (T : MapTy P t k e) (l : List UInt8) (hl : l.length ≤ maxLen) :
    (Instr.lookup t (.map (some b)) (.string (bs l)) false).run P w = .ok (.int .i64 ((f l).getD 0)) w := by
  obtain ⟨D, h, hs⟩ := h
  obtain ⟨c, hrun, hat, _⟩ := h.lookup_int (Maps.string_keyed T.key) T.map T.elem (T.zero w) (key_of T.key l hl)
  have := el_inj ((hs.at_ l).symm.trans hat)
  rw [this]
  exact hrun

/-- a map that is ranged over: which entries are still to come -/
def MpR (P : Program) (k e : TypeId) (w : World) (b r n : Nat) (f : List UInt8 → Option Int) (left : List UInt8 → Bool) (cnt : Nat) : Prop :=
  ∃ (D : DataW Unit) (lf : Lit → Bool), w.ranges P k (plainElem P e) b r n D lf cnt ∧ Says D f ∧ ∀ l, lf (ky l) = left l
theorem MpR.block {P : Program} {k e : TypeId} {w w' : World} {b r n cnt : Nat} {f : List UInt8 → Option Int} {left : List UInt8 → Bool} (h : MpR P k e w b r n f left cnt) {row : Option Nat} (hg : w.grownBy w' row) (hb : some b ≠ row) (hr : some r ≠ row) : MpR P k e w' b r n f left cnt := by
  obtain ⟨D, lf, h1, h2, h3⟩ := h
  exact ⟨D, lf, h1.kept hg hb hr, h2, h3⟩
theorem MpR.left_eq {P : Program} {k e : TypeId} {w : World} {b r n cnt : Nat} {f : List UInt8 → Option Int} {left : List UInt8 → Bool} (h : MpR P k e w b r n f left cnt) : w.rangeLeft b r = cnt := by
  obtain ⟨D, lf, h1, _⟩ := h
  exact h1.left_eq
theorem MpR.owns {P : Program} {k e : TypeId} {w : World} {b r n cnt : Nat} {f : List UInt8 → Option Int} {left : List UInt8 → Bool} (h : MpR P k e w b r n f left cnt) : MpAt P k e w b n f := by
  obtain ⟨D, lf, h1, h2, _⟩ := h
  exact ⟨D, h1.owns, h2⟩
theorem key_inv {P : Program} {k : TypeId} (hk : P.underlying k = some .string) {key : Value} {kl : Lit} (h : keyOf P k key = some kl) : ∃ l : List UInt8, key = .string (bs l) ∧ kl = ky l ∧ l.length ≤ maxLen := by
  obtain ⟨s, rfl, h2, h1⟩ := Go.WideMaps.string_of_keyOf hk h
  exact ⟨s.data.toList, by rw [bs_eta], h2, h1⟩

section
variable {P : Program} (w : World) {ops : Array Oper} {rest : List Oper} {o : Oper} {a : Act} {Q : Exit → Act → World → Prop}
/-- range m -/
theorem wpList_range_mp (hg : o.guard = none) (m : Operand) (t : TypeId) (hop : o.op = Op.range t m) {k e : TypeId} (T : MapTy P t k e) {b n : Nat} {f : List UInt8 → Option Int} (hm : a.eval m = .map (some b)) (h : MpAt P k e w b n f)
    (hK : ∀ w' cnt, MpR P k e w' b w.heap.size n f (fun l => (f l).isSome) cnt → cnt ≤ n → w.grownBy w' none → w'.heap.size = w.heap.size + 1 → wpList P ops Q rest (a.put o.dst (.pointer (some ⟨w.heap.size, 0, none⟩))) w') :
    wpList P ops Q (o :: rest) a w := by
  obtain ⟨D, h, hs⟩ := h
  refine wpList_range_own w hg m t hop k e (Maps.string_keyed T.key) T.map (plainElem P e) b n D hm h ?_
  intro w' h1 h2 h3
  exact hK w' _ ⟨D, _, h1, hs, fun l => hs.has l⟩ h.size_le h2 h3
/-- the next entry -/
theorem wpList_next_mp (hg : o.guard = none) (it : Operand) (hop : o.op = Op.next it false) {t k e : TypeId} (T : MapTy P t k e) {b r n cnt : Nat} {f : List UInt8 → Option Int} {left : List UInt8 → Bool}
    (hit : a.eval it = .pointer (some ⟨r, 0, none⟩)) (h : MpR P k e w b r n f left cnt)
    (hDone : (∀ l, left l = false) → wpList P ops Q rest (a.put o.dst (.tuple #[.bool false])) w)
    (hMore : ∀ (l : List UInt8) (z : Int) (w' : World) (cnt' : Nat), l.length ≤ maxLen → left l = true → f l = some z → -9223372036854775808 ≤ z → z ≤ 9223372036854775807 → MpR P k e w' b r n f (fun x => left x && !(x == l)) cnt' → cnt' < cnt →
      w.grownBy w' (some r) → w'.heap.size = w.heap.size → (Instr.entry (.pointer (some ⟨r, 0, none⟩))).run P w' = .ok (.tuple #[.string (bs l), .int .i64 z]) w' → wpList P ops Q rest (a.put o.dst (.tuple #[.bool true, .string (bs l), .int .i64 z])) w') :
    wpList P ops Q (o :: rest) a w := by
  obtain ⟨D, lf, hr, hs, hlf⟩ := h
  refine wpList_next_ranges w hg it hop k (Maps.string_keyed T.key) (plainElem P e) (fun l : List UInt8 => Value.string (bs l)) (Value.int .i64) (fun key kl hkey => ?_) (fun v y hv => by obtain ⟨c, rfl, _⟩ := plainElem_int_inv T.elem hv; exact ⟨c, rfl⟩) b r n D lf cnt hit hr ?_ ?_
  · obtain ⟨l, rfl, _⟩ := key_inv T.key hkey
    exact ⟨l, rfl⟩
  · intro _ hl
    exact hDone (fun l => by rw [← hlf]; exact hl _)
  · intro l z kl y w' cnt' hkey hlk hv hat hrg hlt hgr hsz hen
    obtain ⟨l', e1, rfl, hl'⟩ := key_inv T.key hkey
    injection e1 with e1
    obtain rfl := bs_inj e1
    obtain ⟨c, e2, hy, hwf⟩ := plainElem_int_inv T.elem hv
    injection e2 with _ e2
    subst e2
    subst hy
    have hb := bounds_i64 hwf
    have h1 := el_inj ((hs.at_ l).symm.trans (hat (el 0)))
    have h2 := Maps.has_true_of_atKey (fun zd => hat zd)
    rw [hs.has] at h2
    have hf : f l = some z := by
      cases hfl : f l with
      | none => rw [hfl] at h2; cases h2
      | some v => rw [hfl] at h1; rw [show v = z from h1]
    exact hMore l z w' cnt' hl' (by rw [← hlf]; exact hlk) hf hb.1 hb.2 ⟨D, _, hrg, hs, fun x => by rw [hlf]; rfl⟩ hlt hgr hsz hen
end
end Go.Bar
