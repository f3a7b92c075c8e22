/-
  Maps that the call itself has made, said as functions: keys of any kind (texts, ints), elements of any kind whose values read one to one. Plain lemmas over any program; no condition.
-/
import Derived.Test.YtnoebccoaeiakaaGreatDoorZLib17

namespace Go.Bar
open Go.RowKit

structure Elk (α : Type) where
  enc : α → Value
  dat : α → DataW Unit
  einj : ∀ a b, enc a = enc b → a = b
  dinj : ∀ a b, dat a = dat b → a = b
open Classical in
noncomputable def Elk.rd {α : Type} (E : Elk α) (v : Value) : Option (DataW Unit × List MemPlace) := if h : ∃ a, v = E.enc a then some (E.dat (Classical.choose h), []) else none
theorem Elk.rd_of {α : Type} (E : Elk α) (a : α) : E.rd (E.enc a) = some (E.dat a, []) := by
  unfold Elk.rd
  have h : ∃ b, E.enc a = E.enc b := ⟨a, rfl⟩
  rw [dif_pos h, E.einj _ _ (Classical.choose_spec h).symm]
theorem Elk.rd_inv {α : Type} (E : Elk α) {v : Value} {a : α} {ps : List MemPlace} (h : E.rd v = some (E.dat a, ps)) : v = E.enc a := by
  unfold Elk.rd at h
  by_cases hx : ∃ b, v = E.enc b
  · rw [dif_pos hx] at h
    injection h with h
    injection h with h1 _
    rw [← E.dinj _ _ h1]
    exact Classical.choose_spec hx
  · rw [dif_neg hx] at h
    cases h
structure Kyk (κ : Type) where
  lit : κ → Lit
  val : κ → Value
  inj : ∀ a b, lit a = lit b → a = b
  is : ∀ a, WideAt.IsKeyLit (lit a)
  ok : κ → Prop
def kyS : Kyk (List UInt8) := ⟨ky, fun l => .string (bs l), fun a b h => (by injection h), ky_is, fun l => l.length ≤ maxLen⟩
def kyZ : Kyk Int := ⟨fun z => .int .i64 z, fun z => .int .i64 z, fun a b h => (by injection h), fun _ => trivial, fun z => -9223372036854775808 ≤ z ∧ z ≤ 9223372036854775807⟩
structure Mty {κ α : Type} (P : Program) (t k e : TypeId) (K : Kyk κ) (E : Elk α) (z : α) : Prop where
  map : P.underlying t = some (.map k e)
  keyed : Maps.Keyed P k
  key : ∀ x, K.ok x → keyOf P k (K.val x) = some (K.lit x)
  zero : ∀ w, (zeroValue e).run P w = .ok (E.enc z) w
theorem key_S {P : Program} {k : TypeId} (hk : P.underlying k = some .string) : ∀ x, kyS.ok x → keyOf P k (kyS.val x) = some (kyS.lit x) := fun l hl => key_of hk l hl
theorem key_Z {P : Program} {k : TypeId} (hk : P.underlying k = some (.int .i64)) : ∀ x, kyZ.ok x → keyOf P k (kyZ.val x) = some (kyZ.lit x) := fun z hz => by
  have hw : (Lit.int .i64 z).wf = true := WalkArith.wf_i64 hz
  simp [kyZ, keyOf, hk, mapKey, hw]
open Classical in
noncomputable def updF {κ α : Type} (f : κ → Option α) (x : κ) (v : α) : κ → Option α := fun y => if y = x then some v else f y
theorem updF_same {κ α : Type} (f : κ → Option α) (x : κ) (v : α) : updF f x v x = some v := by unfold updF; rw [if_pos rfl]
theorem updF_ne {κ α : Type} (f : κ → Option α) {x y : κ} (v : α) (h : y ≠ x) : updF f x v y = f y := by unfold updF; rw [if_neg h]
structure SaysF {κ α : Type} (K : Kyk κ) (E : Elk α) (z : α) (D : DataW Unit) (f : κ → Option α) : Prop where
  has : ∀ x, Maps.has D (K.lit x) = (f x).isSome
  at_ : ∀ x, D.atKey (K.lit x) (E.dat z) = E.dat ((f x).getD z)
section
variable {κ α : Type} {K : Kyk κ} {E : Elk α} {z : α}
theorem SaysF.put {D : DataW Unit} {f : κ → Option α} (h : SaysF K E z D f) (hD : Maps.IsMap D) (x : κ) (v : α) : SaysF K E z (D.put (K.lit x) (E.dat v)) (updF f x v) where
  has y := by
    by_cases hx : y = x
    · subst hx
      rw [updF_same, Maps.has_put_same hD (K.is y)]; rfl
    · rw [updF_ne f v hx, Maps.has_put_other (fun e => hx (K.inj _ _ e)), h.has]
  at_ y := by
    by_cases hx : y = x
    · subst hx
      rw [updF_same, Maps.atKey_put_same hD (K.is y)]; rfl
    · rw [updF_ne f v hx, Maps.atKey_put_other (fun e => hx (K.inj _ _ e)), h.at_]
def MfAt (P : Program) (k : TypeId) (K : Kyk κ) (E : Elk α) (z : α) (w : World) (b n : Nat) (f : κ → Option α) : Prop := ∃ D : DataW Unit, w.ownsMap P k E.rd b n D ∧ SaysF K E z D f
variable {P : Program} {t k e : TypeId} {w w' : World} {b n : Nat} {f : κ → Option α}
theorem MfAt.lt (h : MfAt P k K E z w b n f) : b < w.heap.size := by obtain ⟨D, h, _⟩ := h; exact h.lt
theorem MfAt.mono (h : MfAt P k K E z w b n f) {m : Nat} (hm : n ≤ m) : MfAt P k K E z w b m f := by obtain ⟨D, h, hs⟩ := h; exact ⟨D, h.mono hm, hs⟩
theorem MfAt.block (h : MfAt P k K E z w b n f) (hb : w'.heap[b]? = w.heap[b]?) : MfAt P k K E z w' b n f := by
  obtain ⟨D, ⟨es, clock, h1, h2, h3, h4⟩, hs⟩ := h
  exact ⟨D, ⟨es, clock, hb.trans h1, h2, h3, h4⟩, hs⟩
theorem MfAt.below (h : MfAt P k K E z w b n f) (hb : Below w.heap.size w w') : MfAt P k K E z w' b n f := h.block (hb.block b h.lt)
theorem MfAt.is_map (h : MfAt P k K E z w b n f) : ∃ es clock, w.heap[b]? = some (.map es clock) := by
  obtain ⟨D, ⟨es, clock, h1, _⟩, _⟩ := h
  exact ⟨es, clock, h1⟩
theorem MfAt.grown {M : Nat} (h : MfAt P k K E z w b n f) (hg : w.grownBy w' (some M)) (hne : b ≠ M) : MfAt P k K E z w' b n f := h.block (hg.block b h.lt (fun e => hne (by injection e)))
theorem MfAt.fr {S : Nat → Nat → Prop} (h : MfAt P k K E z w b n f) (hf : Fr S w w') : MfAt P k K E z w' b n f := by
  refine h.block ?_
  rcases hf.blk b h.lt with h1 | ⟨c, c', e', fr, h1, _⟩
  · exact h1
  · obtain ⟨es, clock, h2⟩ := h.is_map
    rw [h2] at h1
    cases h1
theorem MfAt.ap {sz : Nat} {v : Value} (h : MfAt P k K E z w b n f) (ha : Ap w w' sz v) : MfAt P k K E z w' b n f := h.fr (Fr.of_ap (S := fun _ _ => True) ha (fun _ _ _ => trivial))
theorem MfAt.set (h : MfAt P k K E z w b n f) (k' i : Nat) (u : Value) : MfAt P k K E z (w.setCell ⟨k', i, none⟩ u) b n f := h.fr ((Fr.refl (fun _ _ => True) w).setCell (fun _ => trivial) u)
theorem MfAt.made (w : World) (P : Program) (k : TypeId) (K : Kyk κ) (E : Elk α) (z : α) : MfAt P k K E z (w.alloc (.map #[] 0)) w.heap.size 0 (fun _ => none) :=
  ⟨.map [], World.ownsMap_made w P k E.rd, ⟨fun _ => rfl, fun _ => rfl⟩⟩
theorem MfAt.look (h : MfAt P k K E z w b n f) (T : Mty P t k e K E z) (x : κ) (hx : K.ok x) : (Instr.lookup t (.map (some b)) (K.val x) false).run P w = .ok (E.enc ((f x).getD z)) w := by
  obtain ⟨D, h, hs⟩ := h
  obtain ⟨v, ps, hr, hv⟩ := World.ownsMap.lookup h T.keyed T.map (T.zero w) (E.rd_of z) (T.key x hx)
  rw [hs.at_] at hv
  rw [← E.rd_inv hv]
  exact hr
theorem MfAt.look_ok (h : MfAt P k K E z w b n f) (T : Mty P t k e K E z) (x : κ) (hx : K.ok x) : (Instr.lookup t (.map (some b)) (K.val x) true).run P w = .ok (.tuple #[E.enc ((f x).getD z), .bool (f x).isSome]) w := by
  obtain ⟨D, h, hs⟩ := h
  obtain ⟨v, ps, hr, hv⟩ := World.ownsMap.look_ok h T.keyed T.map (T.zero w) (E.rd_of z) (T.key x hx)
  rw [hs.at_] at hv
  rw [← E.rd_inv hv, ← hs.has]
  exact hr
theorem MfAt.len (h : MfAt P k K E z w b n f) (T : Mty P t k e K E z) (ty : TypeId) : ∃ s, s ≤ n ∧ (Builtin.len_ #[t] ty #[.map (some b)]).run P w = .ok (.int .i64 (s : Nat)) w := by
  obtain ⟨D, h, hs⟩ := h
  refine ⟨Maps.size D, ?_, World.ownsMap.len h T.map ty⟩
  obtain ⟨es, clock, _, _, h3, rfl⟩ := h
  rw [Maps.size_eq]
  exact Nat.le_trans (Nat.le_of_eq (length_read es)) h3
theorem Buf.mappedF {e' : TypeId} {sz m : Nat} {v : Value} {xs : List Value} (h : Buf w e' sz v m xs) (hm : ∃ es clock, w.heap[b]? = some (.map es clock)) (hg : w.grownBy w' (some b)) : Buf w' e' sz v m xs := by
  obtain ⟨hl, A, c, rfl, hnc, hc, hv⟩ := h
  refine ⟨hl, A, c, rfl, hnc, hc, fun h0 => ?_⟩
  obtain ⟨b', o, cur, fr, rfl, hbk, hs, hf, hx⟩ := hv h0
  refine ⟨b', o, cur, fr, rfl, (hg.block b' (Array.getElem?_eq_some_iff.1 hbk).1 (fun e => ?_)).trans hbk, hs, hf, hx⟩
  obtain ⟨es, clock, h2⟩ := hm
  injection e with e
  subst e
  rw [h2] at hbk
  cases hbk
theorem Blk.mappedF {M : Nat} {T : TypeId} {cur : Array Value} (h : Blk w M T cur) (hm : ∃ es clock, w.heap[b]? = some (.map es clock)) (hg : w.grownBy w' (some b)) : Blk w' M T cur := by
  refine (hg.block M h.lt (fun e => ?_)).trans h
  obtain ⟨es, clock, h2⟩ := hm
  injection e with e
  subst e
  unfold Blk at h
  rw [h2] at h
  cases h
variable {ops : Array Oper} {rest : List Oper} {o : Oper} {a : Act} {Q : Exit → Act → World → Prop}
theorem wpList_update_mf (hg : o.guard = none) (m x v : Operand) (t : TypeId) (hop : o.op = Op.mapUpdate t m x v) (T : Mty P t k e K E z) (hm : a.eval m = .map (some b)) (h : MfAt P k K E z w b n f) (hn : n < maxLen) (y : κ) (hx : a.eval x = K.val y) (hy : K.ok y) (u : α) (hv : a.eval v = E.enc u)
    (hK : ∀ w', MfAt P k K E z w' b (n + 1) (updF f y u) → w.grownBy w' (some b) → wpList P ops Q rest (a.put o.dst undef) w') : wpList P ops Q (o :: rest) a w := by
  obtain ⟨D, h, hs⟩ := h
  refine wpList_mapUpdate_own w hg m x v t hop k e T.keyed T.map E.rd b n D hm h hn _ _ (K.lit y) hx hv (T.key y hy) (E.dat u) [] (E.rd_of u) ?_
  intro w1 h1 hg1
  exact hK w1 ⟨_, h1, hs.put h.isMap y u⟩ hg1
end
def elP : Elk (Option Nat) := ⟨fun p => .pointer (p.map fun b => ⟨b, 0, none⟩), fun p => match p with | none => .agg [] | some b => .lit (.int .i64 (b : Nat)),
  fun a b h => by cases a <;> cases b <;> simp_all, fun a b h => by cases a <;> cases b <;> simp_all <;> omega⟩
def elZ : Elk Int := ⟨fun z => .int .i64 z, fun z => .lit (.int .i64 z), fun a b h => (by injection h), fun a b h => (by injection h with h; injection h)⟩
def elM : Elk (Option Nat) := ⟨fun p => .map p, fun p => match p with | none => .agg [] | some b => .lit (.int .i64 (b : Nat)),
  fun a b h => (by injection h), fun a b h => by cases a <;> cases b <;> simp_all <;> omega⟩
def elS : Elk (Option (Nat × Nat) × Nat × Nat) := ⟨fun p => .slice (p.1.map fun q => ⟨q.1, q.2, none⟩) p.2.1 p.2.2,
  fun p => .agg [match p.1 with | none => .agg [] | some q => .agg [.lit (.int .i64 (q.1 : Nat)), .lit (.int .i64 (q.2 : Nat))], .lit (.int .i64 (p.2.1 : Nat)), .lit (.int .i64 (p.2.2 : Nat))],
  fun ⟨a, b, c⟩ ⟨a', b', c'⟩ h => by
    injection h with h1 h2 h3
    simp only at h1 h2 h3
    subst h2; subst h3
    rcases a with _ | ⟨x, y⟩ <;> rcases a' with _ | ⟨x', y'⟩ <;> simp_all,
  fun ⟨a, b, c⟩ ⟨a', b', c'⟩ h => by
    rcases a with _ | ⟨x, y⟩ <;> rcases a' with _ | ⟨x', y'⟩ <;> simp_all <;> omega⟩
end Go.Bar
