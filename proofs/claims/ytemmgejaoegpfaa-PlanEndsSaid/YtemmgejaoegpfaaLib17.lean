/-
  Maps from texts to ints that the call itself has made, said as functions (MpAt). Plain lemmas over any program; no condition.
-/
import Derived.Test.YtemmgejaoegpfaaLib4
import Derived.Test.YtemmgejaoegpfaaLib9
import Derived.Maps.Own
import Derived.Maps.OwnOps
import Derived.Maps.OwnSet
import Derived.Maps.RangeWalk
namespace Go.Bar
open Go.RowKit

/-- a text as a key -/
def ky (l : List UInt8) : Lit := .string l
theorem ky_ne {l m : List UInt8} (h : l ≠ m) : ky l ≠ ky m := fun e => h (by injection e)
theorem ky_is (l : List UInt8) : WideAt.IsKeyLit (ky l) := by unfold ky WideAt.IsKeyLit; trivial
/-- an int as an element -/
def el (z : Int) : DataW Unit := .lit (.int .i64 z)
theorem el_inj {a b : Int} (h : el a = el b) : a = b := by
  unfold el at h
  injection h with h
  injection h
/-- what a reading says as a function -/
structure Says (D : DataW Unit) (f : List UInt8 → Option Int) : Prop where
  has : ∀ l, Maps.has D (ky l) = (f l).isSome
  at_ : ∀ l, D.atKey (ky l) (el 0) = el ((f l).getD 0)
/-- block b is a map of at most n entries that says f -/
def MpAt (P : Program) (k e : TypeId) (w : World) (b n : Nat) (f : List UInt8 → Option Int) : Prop := ∃ D : DataW Unit, w.ownsMap P k (plainElem P e) b n D ∧ Says D f
/-- a map's types -/
structure MapTy (P : Program) (t k e : TypeId) : Prop where
  map : P.underlying t = some (.map k e)
  key : P.underlying k = some .string
  elem : P.underlying e = some (.int .i64)
  zero : ∀ w, (zeroValue e).run P w = .ok (.int .i64 0) w

/-- f with z at l -/
def upd (f : List UInt8 → Option Int) (l : List UInt8) (z : Int) : List UInt8 → Option Int := fun x => if x = l then some z else f x
theorem Says.put {D : DataW Unit} {f : List UInt8 → Option Int} (h : Says D f) (hD : Maps.IsMap D) (l : List UInt8) (z : Int) : Says (D.put (ky l) (el z)) (upd f l z) where
  has x := by
    unfold upd
    by_cases hx : x = l
    · subst hx
      rw [if_pos rfl, Maps.has_put_same hD (ky_is x)]; rfl
    · rw [if_neg hx, Maps.has_put_other (ky_ne hx), h.has]
  at_ x := by
    unfold upd
    by_cases hx : x = l
    · subst hx
      rw [if_pos rfl, Maps.atKey_put_same hD (ky_is x)]; rfl
    · rw [if_neg hx, Maps.atKey_put_other (ky_ne hx), h.at_]

section
variable {P : Program} {t k e : TypeId} {w w' : World} {b n : Nat} {f : List UInt8 → Option Int}
theorem MpAt.lt (h : MpAt P k e w b n f) : b < w.heap.size := by obtain ⟨D, h, _⟩ := h; exact h.lt
theorem MpAt.mono (h : MpAt P k e w b n f) {m : Nat} (hm : n ≤ m) : MpAt P k e w b m f := by obtain ⟨D, h, hs⟩ := h; exact ⟨D, h.mono hm, hs⟩
theorem MpAt.kept {row : Option Nat} (h : MpAt P k e w b n f) (hg : w.grownBy w' row) (hne : some b ≠ row) : MpAt P k e w' b n f := by obtain ⟨D, h, hs⟩ := h; exact ⟨D, h.kept hg hne, hs⟩
theorem MpAt.block (h : MpAt P k e w b n f) (hb : w'.heap[b]? = w.heap[b]?) : MpAt P k e w' b n f := by
  obtain ⟨D, ⟨es, clock, h1, h2, h3, h4⟩, hs⟩ := h
  exact ⟨D, ⟨es, clock, hb.trans h1, h2, h3, h4⟩, hs⟩
theorem MpAt.below (h : MpAt P k e w b n f) (hb : Below w.heap.size w w') : MpAt P k e w' b n f := h.block (hb.block b h.lt)
theorem MpAt.belowB (h : MpAt P k e w b n f) {B : Nat} (hb : Below B w w') (hB : b < B) : MpAt P k e w' b n f := h.block (hb.block b hB)
theorem MpAt.alloc (h : MpAt P k e w b n f) (o : Obj) : MpAt P k e (w.alloc o) b n f := h.below ((Below.refl _ _).alloc (Nat.le_refl _) o)
theorem MpAt.drew (h : MpAt P k e w b n f) : MpAt P k e w.drew b n f := h.below (Below.refl _ _).drew
theorem MpAt.drewN (h : MpAt P k e w b n f) (m : Nat) : MpAt P k e (w.drewN m) b n f := h.below (below_draws w m)
theorem MpAt.is_map (h : MpAt P k e w b n f) : ∃ es clock, w.heap[b]? = some (.map es clock) := by
  obtain ⟨D, ⟨es, clock, h1, _⟩, _⟩ := h
  exact ⟨es, clock, h1⟩
/-- stores into cells leave a map as it is -/
theorem MpAt.fr {S : Nat → Nat → Prop} (h : MpAt P k e w b n f) (hf : Fr S w w') : MpAt P k e w' b n f := by
  refine h.block ?_
  rcases hf.blk b h.lt with h1 | ⟨c, c', e', fr, h1, _⟩
  · exact h1
  · obtain ⟨es, clock, h2⟩ := h.is_map
    rw [h2] at h1
    cases h1
theorem MpAt.ap {sz : Nat} {v : Value} (h : MpAt P k e w b n f) (ha : Ap w w' sz v) : MpAt P k e w' b n f := h.fr (Fr.of_ap (S := fun _ _ => True) ha (fun _ _ _ => trivial))
theorem MpAt.set (h : MpAt P k e w b n f) (k' i : Nat) (u : Value) : MpAt P k e (w.setCell ⟨k', i, none⟩ u) b n f := h.fr ((Fr.refl (fun _ _ => True) w).setCell (fun _ => trivial) u)
theorem MpAt.made (w : World) (P : Program) (k e : TypeId) : MpAt P k e (w.alloc (.map #[] 0)) w.heap.size 0 (fun _ => none) :=
  ⟨.map [], World.ownsMap_made w P k (plainElem P e), ⟨fun _ => rfl, fun _ => rfl⟩⟩

theorem grown_below {B : Nat} {w0 : World} (hb : Below B w0 w) (hg : w.grownBy w' (some b)) (hB : B ≤ b) (h0 : B ≤ w0.heap.size) : Below B w0 w' := hb.grown hg (Nat.le_trans h0 hb.size) (fun j hj => by cases hj; exact hB)
/-- a store into a map leaves buffers as they are -/
theorem Buf.mapped {e' : TypeId} {sz m : Nat} {v : Value} {xs : List Value} (h : Buf w e' sz v m xs) (hm : MpAt P k e w b n f) (hg : w.grownBy w' (some b)) : Buf w' e' sz v m xs := by
  obtain ⟨hl, A, c, rfl, hnc, hc, hv⟩ := h
  refine ⟨hl, A, c, rfl, hnc, hc, fun h0 => ?_⟩
  obtain ⟨b', o, cur, fr, rfl, hbk, hs, hf, hx⟩ := hv h0
  refine ⟨b', o, cur, fr, rfl, (hg.block b' (Array.getElem?_eq_some_iff.1 hbk).1 (fun e => ?_)).trans hbk, hs, hf, hx⟩
  obtain ⟨es, clock, h2⟩ := hm.is_map
  injection e with e
  subst e
  rw [h2] at hbk
  cases hbk
theorem Blk.mapped {M : Nat} {T : TypeId} {cur : Array Value} (h : Blk w M T cur) (hm : MpAt P k e w b n f) (hg : w.grownBy w' (some b)) : Blk w' M T cur := by
  refine (hg.block M h.lt (fun e => ?_)).trans h
  obtain ⟨es, clock, h2⟩ := hm.is_map
  injection e with e
  subst e
  unfold Blk at h
  rw [h2] at h
  cases h
theorem Blk.grown {M : Nat} {T : TypeId} {cur : Array Value} (h : Blk w M T cur) (hg : w.grownBy w' (some b)) (hne : M ≠ b) : Blk w' M T cur :=
  (hg.block M h.lt (fun e => hne (by injection e))).trans h
theorem MpAt.grown {M : Nat} (h : MpAt P k e w b n f) (hg : w.grownBy w' (some M)) (hne : b ≠ M) : MpAt P k e w' b n f := h.kept hg (fun e => hne (by injection e))
theorem NBuf.mapped {w0 : World} {e' : TypeId} {sz m : Nat} {v : Value} {xs : List Value} (h : NBuf w0 w e' sz v m xs) (hm : MpAt P k e w b n f) (hg : w.grownBy w' (some b)) (hB : w0.heap.size ≤ b) : NBuf w0 w' e' sz v m xs :=
  ⟨h.buf.mapped hm hg, grown_below h.below hg hB (Nat.le_refl _), h.new⟩
end

section
variable {P : Program} (w : World) {ops : Array Oper} {rest : List Oper} {o : Oper} {a : Act} {Q : Exit → Act → World → Prop}
theorem key_of {k : TypeId} (hk : P.underlying k = some .string) (l : List UInt8) (hl : l.length ≤ maxLen) : keyOf P k (.string (bs l)) = some (ky l) := Go.WideMaps.keyOf_string_mk hk (s := bs l) hl
/-- m[k] -/
theorem wpList_lookup_mp (hg : o.guard = none) (m x : Operand) (t : TypeId) (hop : o.op = Op.lookup t m x false) {k e : TypeId} (T : MapTy P t k e) {b n : Nat} {f : List UInt8 → Option Int}
    (hm : a.eval m = .map (some b)) (h : MpAt P k e w b n f) (l : List UInt8) (hx : a.eval x = .string (bs l)) (hl : l.length ≤ maxLen) (z : Int) (hz : (f l).getD 0 = z)
    (hK : wpList P ops Q rest (a.put o.dst (.int .i64 z)) w) : wpList P ops Q (o :: rest) a w := by
  subst hz
  obtain ⟨D, h, hs⟩ := h
  refine wpList_lookup_own_int w hg m x t hop k e .i64 (Maps.string_keyed T.key) T.map T.elem (T.zero w) b n D hm h _ (ky l) hx (key_of T.key l hl) ?_
  intro c hat _
  have := el_inj ((hs.at_ l).symm.trans hat)
  rw [← this]
  exact hK
/-- v, ok := m[k] -/
theorem wpList_lookup_mp_ok (hg : o.guard = none) (m x : Operand) (t : TypeId) (hop : o.op = Op.lookup t m x true) {k e : TypeId} (T : MapTy P t k e) {b n : Nat} {f : List UInt8 → Option Int}
    (hm : a.eval m = .map (some b)) (h : MpAt P k e w b n f) (l : List UInt8) (hx : a.eval x = .string (bs l)) (hl : l.length ≤ maxLen) (z : Int) (hz : (f l).getD 0 = z) (g : Bool) (hg2 : (f l).isSome = g)
    (hK : wpList P ops Q rest (a.put o.dst (.tuple #[.int .i64 z, .bool g])) w) : wpList P ops Q (o :: rest) a w := by
  subst hz; subst hg2
  obtain ⟨D, h, hs⟩ := h
  refine wpList_lookup_own_ok_int w hg m x t hop k e .i64 (Maps.string_keyed T.key) T.map T.elem (T.zero w) b n D hm h _ (ky l) hx (key_of T.key l hl) ?_
  intro c hat _
  have := el_inj ((hs.at_ l).symm.trans hat)
  rw [← this, hs.has]
  exact hK
/-- m[k] = v -/
theorem wpList_update_mp (hg : o.guard = none) (m x v : Operand) (t : TypeId) (hop : o.op = Op.mapUpdate t m x v) {k e : TypeId} (T : MapTy P t k e) {b n : Nat} {f : List UInt8 → Option Int}
    (hm : a.eval m = .map (some b)) (h : MpAt P k e w b n f) (hn : n < maxLen) (l : List UInt8) (hx : a.eval x = .string (bs l)) (hl : l.length ≤ maxLen) (z : Int) (hv : a.eval v = .int .i64 z)
    (hz1 : -9223372036854775808 ≤ z) (hz2 : z ≤ 9223372036854775807)
    (hK : ∀ w', MpAt P k e w' b (n + 1) (upd f l z) → w.grownBy w' (some b) → wpList P ops Q rest (a.put o.dst undef) w') : wpList P ops Q (o :: rest) a w := by
  obtain ⟨D, h, hs⟩ := h
  refine wpList_mapUpdate_own w hg m x v t hop k e (Maps.string_keyed T.key) T.map (plainElem P e) b n D hm h hn _ _ (ky l) hx hv (key_of T.key l hl) (el z) [] (plainElem_int T.elem (WalkArith.wf_i64 (by omega))) ?_
  intro w1 h1 hg1
  exact hK w1 ⟨_, h1, hs.put h.isMap l z⟩ hg1
end
end Go.Bar
