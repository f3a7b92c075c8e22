/-
  Blocks that are known whole, beside buffers and frames (Fr). Plain lemmas over any program; no condition.
-/
import Derived.Test.YtemmgejaoegpfaaZLib2
import Derived.Maps.Own
import Derived.Maps.OwnOps
import Derived.Maps.OwnSet
import Derived.Maps.RangeWalk
import Derived.Test.YtemmgejaoegpfaaZLib6

namespace Go.Bar
open Go.RowKit

/-- a block that may be written: its cells -/
def Blk (w : World) (M : Nat) (T : TypeId) (cur : Array Value) : Prop := w.heap[M]? = some (.cells cur T (0, 0))
section
variable {w w' : World} {M : Nat} {T : TypeId} {cur : Array Value}
theorem Blk.new (w : World) (cur : Array Value) (T : TypeId) : Blk (w.alloc (.cells cur T)) w.heap.size T cur := heap_alloc_new w _
theorem Blk.lt (h : Blk w M T cur) : M < w.heap.size := (Array.getElem?_eq_some_iff.1 h).1
theorem Blk.cell (h : Blk w M T cur) {i : Nat} {u : Value} (hu : cur[i]? = some u) : w.cell? ⟨M, i, none⟩ = some u := (cell_of_block h i).trans hu
theorem Blk.free (h : Blk w M T cur) (i : Nat) : w.frozen? ⟨M, i, none⟩ = false := by
  unfold Blk at h
  simp [World.frozen?, h]
theorem Blk.set (h : Blk w M T cur) (i : Nat) (v : Value) : Blk (w.setCell ⟨M, i, none⟩ v) M T (cur.setIfInBounds i v) := by
  unfold Blk at h ⊢
  simp [World.setCell, Array.getElem?_modify, h]
theorem Blk.other (h : Blk w M T cur) {b : Nat} (hb : M ≠ b) (i : Nat) (v : Value) : Blk (w.setCell ⟨b, i, none⟩ v) M T cur := (Below.heap_setCell w ⟨b, i, none⟩ v M hb).trans h
theorem Blk.below (h : Blk w M T cur) (hb : Below w.heap.size w w') : Blk w' M T cur := (hb.block M h.lt).trans h
theorem Blk.belowB (h : Blk w M T cur) {B : Nat} (hb : Below B w w') (hB : M < B) : Blk w' M T cur := (hb.block M hB).trans h
theorem Blk.alloc (h : Blk w M T cur) (o : Obj) : Blk (w.alloc o) M T cur := h.below ((Below.refl _ _).alloc (Nat.le_refl _) o)
theorem Blk.drew (h : Blk w M T cur) : Blk w.drew M T cur := h.below (Below.refl _ _).drew
theorem Blk.drewN (h : Blk w M T cur) (n : Nat) : Blk (w.drewN n) M T cur := h.below (below_draws w n)
theorem Blk.fr (h : Blk w M T cur) {S : Nat → Nat → Prop} (hf : Fr S w w') (hS : ∀ i, ¬ S M i) : Blk w' M T cur := (hf.block h.lt hS).trans h
/-- an append to a buffer of another element type leaves it -/
theorem Blk.ap (h : Blk w M T cur) {e : TypeId} {sz n : Nat} {v : Value} {xs : List Value} (hb : Buf w e sz v n xs) (ha : Ap w w' sz v) (hne : e ≠ T) : Blk w' M T cur := by
  rcases ha.block M h.lt with h1 | ⟨o, n', c, cur1, cur', e1, fr, rfl, hw, hw', hsz, hi⟩
  · exact h1.trans h
  · unfold Blk at h ⊢
    rw [hw'] 
    rw [h] at hw
    injection hw with hw
    injection hw with g1 g2 g3
    subst g1; subst g2; subst g3
    obtain ⟨hl, A, c', hv', hnc, hc, hv⟩ := hb
    injection hv' with a1 a2 a3
    subst a1; subst a2; subst a3
    rcases Nat.eq_zero_or_pos c with h0 | h0
    · subst h0
      have : cur' = cur := Array.ext_getElem? (fun i => hi i (by rw [show n' = 0 by omega]; omega))
      rw [this]
    · obtain ⟨b2, o2, cur2, fr2, h4, hb2, _⟩ := hv h0
      injection h4 with h4
      injection h4 with h4
      subst h4
      rw [h] at hb2
      injection hb2 with hb2
      injection hb2 with _ g2 _
      exact absurd g2.symm hne
end
/-- a store to a block of another element type leaves a buffer -/
theorem Buf.set_ne {w : World} {e : TypeId} {sz n : Nat} {v : Value} {xs : List Value} (h : Buf w e sz v n xs) {M : Nat} {T : TypeId} {cur : Array Value} (hb : Blk w M T cur) (hne : e ≠ T) (i : Nat) (u : Value) : Buf (w.setCell ⟨M, i, none⟩ u) e sz v n xs := by
  obtain ⟨hl, A, c, rfl, hnc, hc, hv⟩ := h
  refine ⟨hl, A, c, rfl, hnc, hc, fun h0 => ?_⟩
  obtain ⟨b, o, cur', fr, rfl, hbk, hs, hf, hx⟩ := hv h0
  have hbM : b ≠ M := by
    rintro rfl
    unfold Blk at hb
    rw [hbk] at hb
    injection hb with hb
    injection hb with _ hb _
    exact hne hb
  exact ⟨b, o, cur', fr, rfl, (Below.heap_setCell w ⟨M, i, none⟩ u b hbM).trans hbk, hs, hf, hx⟩

/-- a buffer whose block, if any, has been made since w -/
structure FBuf (w wr : World) (e : TypeId) (sz : Nat) (v : Value) (n : Nat) (xs : List Value) : Prop where
  buf : Buf wr e sz v n xs
  new : ∀ k, v.ownBlock = some k → w.heap.size ≤ k
section
variable {w wr w' : World} {e e' : TypeId} {sz sz' n n' : Nat} {v v' : Value} {xs xs' : List Value}
theorem FBuf.nil (w wr : World) (e : TypeId) (sz : Nat) : FBuf w wr e sz (.slice none 0 0) 0 [] := ⟨Buf.nil _ _ _, by simp [Value.ownBlock]⟩
theorem FBuf.below (h : FBuf w wr e sz v n xs) (hb : Below wr.heap.size wr w') : FBuf w w' e sz v n xs := ⟨h.buf.below hb, h.new⟩
theorem FBuf.alloc (h : FBuf w wr e sz v n xs) (o : Obj) : FBuf w (wr.alloc o) e sz v n xs := ⟨h.buf.alloc o, h.new⟩
theorem FBuf.drew (h : FBuf w wr e sz v n xs) : FBuf w wr.drew e sz v n xs := ⟨h.buf.drew, h.new⟩
theorem FBuf.fr (h : FBuf w wr e sz v n xs) {S : Nat → Nat → Prop} (hf : Fr S wr w') (hS : ∀ k i, w.heap.size ≤ k → ¬ S k i) : FBuf w w' e sz v n xs := ⟨hf.buf h.buf (fun k i hk => hS k i (h.new k hk)), h.new⟩
theorem FBuf.set_ne (h : FBuf w wr e sz v n xs) {M : Nat} {T : TypeId} {cur : Array Value} (hb : Blk wr M T cur) (hne : e ≠ T) (i : Nat) (u : Value) : FBuf w (wr.setCell ⟨M, i, none⟩ u) e sz v n xs := ⟨h.buf.set_ne hb hne i u, h.new⟩
theorem FBuf.set_ne2 {M : Nat} {T : TypeId} (h : FBuf w wr e sz v n xs ∧ ∃ cur, Blk wr M T cur) (hne : e ≠ T) (i : Nat) (u : Value) : FBuf w (wr.setCell ⟨M, i, none⟩ u) e sz v n xs ∧ ∃ cur, Blk (wr.setCell ⟨M, i, none⟩ u) M T cur := by
  obtain ⟨hf, cur, hb⟩ := h
  exact ⟨hf.set_ne hb hne i u, _, hb.set i u⟩
theorem FBuf.step (h : FBuf w wr e sz v n xs) (hw : w.heap.size ≤ wr.heap.size) (hb : Buf w' e sz v' n' xs') (hg : Grew wr v v') : FBuf w w' e sz v' n' xs' := ⟨hb, hg.new hw h.new⟩
theorem FBuf.keep (h : FBuf w wr e sz v n xs) (h' : Buf wr e' sz' v' n' xs') (ha : Ap wr w' sz' v') (hne : e ≠ e') : FBuf w w' e sz v n xs := ⟨h.buf.keep_ap h' ha hne, h.new⟩
theorem FBuf.slice (h : FBuf w wr e sz v n xs) : SlAt wr sz v n xs := SlAt.of_buf h.buf
theorem FBuf.older {w0 : World} (h : FBuf w wr e sz v n xs) (hle : w0.heap.size ≤ w.heap.size) : FBuf w0 wr e sz v n xs := ⟨h.buf, fun k hk => Nat.le_trans hle (h.new k hk)⟩
/-- what an append to such a buffer leaves -/
theorem FBuf.belowB (h : FBuf w wr e sz v n xs) (hw : w.heap.size ≤ wr.heap.size) (ha : Ap wr w' sz v) : Below w.heap.size wr w' := ha.below hw h.new
end
theorem Fr.then_belowB {S : Nat → Nat → Prop} {w w' w'' : World} (h : Fr S w w') (hb : Below w.heap.size w' w'') (hsz : w'.heap.size ≤ w''.heap.size) : Fr S w w'' :=
  ⟨hb.os.trans h.os, hb.tape.trans h.tape, hb.output.trans h.output, Nat.le_trans h.size hsz, fun k hk => by rw [hb.block k hk]; exact h.blk k hk⟩

/-- append(b, literal), b made since W -/
theorem wpList_append_flit {P : Program} {ops : Array Oper} {rest : List Oper} {o : Oper} {a : Act} {Q : Exit → Act → World → Prop} {w : World} (hgd : o.guard = none) (s x : Operand) (t : TypeId)
    (ho : o.op = .call { callee := .builtin .append, args := #[s, x], argTypes := #[t, t] })
    {e : TypeId} {z : Value} {sz bytes : Nat} (hT : ElemTy P t e z sz bytes)
    {v : Value} {m k : Nat} {ys news : List Value} (hv : a.eval s = v) (h : Buf w e sz v m ys) {H : Nat} (hx : a.eval x = .slice (some ⟨H, 0, none⟩) k k) (hH : w.heap.size = H)
    (hl : news.length = k * sz) (h1 : ∀ u ∈ news, u.oneCell' = true) (h63 : m + k ≤ maxLen) (hbytes : (m + k) * bytes ≤ 140737488355328)
    (K : ∀ v' w', Buf w' e sz v' (m + k) (ys ++ news) → Ap (w.alloc (.cells news.toArray e)) w' sz v → Grew (w.alloc (.cells news.toArray e)) v v' → wpList P ops Q rest (a.put o.dst v') w') : wpList P ops Q (o :: rest) a (w.alloc (.cells news.toArray e)) :=
  wpList_append_el hgd s x t t ho hT hv (h.alloc _) (hx.trans (by rw [hH])) ((Buf.lit w e sz k news hl (by omega)).src hT.slice h1) h63 hbytes K
/-- append as a step of a region that draws its order -/
theorem step_append_buf {P : Program} {ops : Array Oper} {o : Oper} {a : Act} {w : World} {K : Act → World → Prop} {Q : Exit → Act → World → Prop} {E : Prop} (hgd : o.guard = none) (s x : Operand) (t : TypeId)
    (ho : o.op = .call { callee := .builtin .append, args := #[s, x], argTypes := #[t, t] }) {e : TypeId} {z : Value} {sz bytes : Nat} (hT : ElemTy P t e z sz bytes)
    {v y : Value} {n k : Nat} {xs news : List Value} (hv : a.eval s = v) (h : Buf w e sz v n xs) (hx : a.eval x = y) (hs : Src P sz t y k news w)
    (h63 : n + k ≤ maxLen) (hbytes : (n + k) * bytes ≤ 140737488355328)
    (hK : ∀ v' w', Buf w' e sz v' (n + k) (xs ++ news) → Ap w w' sz v → Grew w v v' → K (a.put o.dst v') w') : if Region.wanted o (yielded ops a.tmps) = true then Oper.wp P o a w K Q else E := by
  have hw : Region.wanted o (yielded ops a.tmps) = true := by simp [Region.wanted, hgd]
  rw [if_pos hw]
  obtain ⟨i, hi, hz, h1, h2⟩ := hT.info
  obtain ⟨v', w', hr, g2, g3, g4⟩ := run_append_buf (P := P) t t o.type i z bytes hT.slice hi hz h1 h2 hT.zs h y k news hs h63 hbytes
  unfold Oper.wp execOp
  simp only [ho, resolve, invoke, builtin, Sem.run_bind, Sem.run_pure, Result.andThen_ok, List.map_toArray, List.map_cons, List.map_nil, hv, hx, hr]
  exact hK _ _ g2 g3 g4

end Go.Bar

/-
  Maps from texts to ints that the call itself has made, said as functions (MpAt). Plain lemmas over any program; no condition.
-/
namespace Go.Bar
open Go.RowKit

/-- a text as a key -/
def ky (l : List UInt8) : Lit := .string l
theorem ky_ne {l m : List UInt8} (h : l ≠ m) : ky l ≠ ky m := fun e => h (by injection e)
theorem ky_is (l : List UInt8) : WideAt.IsKeyLit (ky l) := by unfold ky WideAt.IsKeyLit; trivial
/-- an int as an element -/
def el (z : Int) : DataW Unit := .lit (.int .i64 z)
theorem el_inj {a b : Int} (h : el a = el b) : a = b := by
  unfold el at h
  injection h with h
  injection h
/-- what a reading says as a function -/
structure Says (D : DataW Unit) (f : List UInt8 → Option Int) : Prop where
  has : ∀ l, Maps.has D (ky l) = (f l).isSome
  at_ : ∀ l, D.atKey (ky l) (el 0) = el ((f l).getD 0)
/-- block b is a map of at most n entries that says f -/
def MpAt (P : Program) (k e : TypeId) (w : World) (b n : Nat) (f : List UInt8 → Option Int) : Prop := ∃ D : DataW Unit, w.ownsMap P k (plainElem P e) b n D ∧ Says D f
/-- a map's types -/
structure MapTy (P : Program) (t k e : TypeId) : Prop where
  map : P.underlying t = some (.map k e)
  key : P.underlying k = some .string
  elem : P.underlying e = some (.int .i64)
  zero : ∀ w, (zeroValue e).run P w = .ok (.int .i64 0) w

/-- f with z at l -/
def upd (f : List UInt8 → Option Int) (l : List UInt8) (z : Int) : List UInt8 → Option Int := fun x => if x = l then some z else f x
theorem Says.put {D : DataW Unit} {f : List UInt8 → Option Int} (h : Says D f) (hD : Maps.IsMap D) (l : List UInt8) (z : Int) : Says (D.put (ky l) (el z)) (upd f l z) where
  has x := by
    unfold upd
    by_cases hx : x = l
    · subst hx
      rw [if_pos rfl, Maps.has_put_same hD (ky_is x)]; rfl
    · rw [if_neg hx, Maps.has_put_other (ky_ne hx), h.has]
  at_ x := by
    unfold upd
    by_cases hx : x = l
    · subst hx
      rw [if_pos rfl, Maps.atKey_put_same hD (ky_is x)]; rfl
    · rw [if_neg hx, Maps.atKey_put_other (ky_ne hx), h.at_]

section
variable {P : Program} {t k e : TypeId} {w w' : World} {b n : Nat} {f : List UInt8 → Option Int}
theorem MpAt.lt (h : MpAt P k e w b n f) : b < w.heap.size := by obtain ⟨D, h, _⟩ := h; exact h.lt
theorem MpAt.mono (h : MpAt P k e w b n f) {m : Nat} (hm : n ≤ m) : MpAt P k e w b m f := by obtain ⟨D, h, hs⟩ := h; exact ⟨D, h.mono hm, hs⟩
theorem MpAt.kept {row : Option Nat} (h : MpAt P k e w b n f) (hg : w.grownBy w' row) (hne : some b ≠ row) : MpAt P k e w' b n f := by obtain ⟨D, h, hs⟩ := h; exact ⟨D, h.kept hg hne, hs⟩
theorem MpAt.block (h : MpAt P k e w b n f) (hb : w'.heap[b]? = w.heap[b]?) : MpAt P k e w' b n f := by
  obtain ⟨D, ⟨es, clock, h1, h2, h3, h4⟩, hs⟩ := h
  exact ⟨D, ⟨es, clock, hb.trans h1, h2, h3, h4⟩, hs⟩
theorem MpAt.below (h : MpAt P k e w b n f) (hb : Below w.heap.size w w') : MpAt P k e w' b n f := h.block (hb.block b h.lt)
theorem MpAt.belowB (h : MpAt P k e w b n f) {B : Nat} (hb : Below B w w') (hB : b < B) : MpAt P k e w' b n f := h.block (hb.block b hB)
theorem MpAt.alloc (h : MpAt P k e w b n f) (o : Obj) : MpAt P k e (w.alloc o) b n f := h.below ((Below.refl _ _).alloc (Nat.le_refl _) o)
theorem MpAt.drew (h : MpAt P k e w b n f) : MpAt P k e w.drew b n f := h.below (Below.refl _ _).drew
theorem MpAt.drewN (h : MpAt P k e w b n f) (m : Nat) : MpAt P k e (w.drewN m) b n f := h.below (below_draws w m)
theorem MpAt.is_map (h : MpAt P k e w b n f) : ∃ es clock, w.heap[b]? = some (.map es clock) := by
  obtain ⟨D, ⟨es, clock, h1, _⟩, _⟩ := h
  exact ⟨es, clock, h1⟩
/-- stores into cells leave a map as it is -/
theorem MpAt.fr {S : Nat → Nat → Prop} (h : MpAt P k e w b n f) (hf : Fr S w w') : MpAt P k e w' b n f := by
  refine h.block ?_
  rcases hf.blk b h.lt with h1 | ⟨c, c', e', fr, h1, _⟩
  · exact h1
  · obtain ⟨es, clock, h2⟩ := h.is_map
    rw [h2] at h1
    cases h1
theorem MpAt.ap {sz : Nat} {v : Value} (h : MpAt P k e w b n f) (ha : Ap w w' sz v) : MpAt P k e w' b n f := h.fr (Fr.of_ap (S := fun _ _ => True) ha (fun _ _ _ => trivial))
theorem MpAt.set (h : MpAt P k e w b n f) (k' i : Nat) (u : Value) : MpAt P k e (w.setCell ⟨k', i, none⟩ u) b n f := h.fr ((Fr.refl (fun _ _ => True) w).setCell (fun _ => trivial) u)
theorem MpAt.made (w : World) (P : Program) (k e : TypeId) : MpAt P k e (w.alloc (.map #[] 0)) w.heap.size 0 (fun _ => none) :=
  ⟨.map [], World.ownsMap_made w P k (plainElem P e), ⟨fun _ => rfl, fun _ => rfl⟩⟩

theorem grown_below {B : Nat} {w0 : World} (hb : Below B w0 w) (hg : w.grownBy w' (some b)) (hB : B ≤ b) (h0 : B ≤ w0.heap.size) : Below B w0 w' := hb.grown hg (Nat.le_trans h0 hb.size) (fun j hj => by cases hj; exact hB)
/-- a store into a map leaves buffers as they are -/
theorem Buf.mapped {e' : TypeId} {sz m : Nat} {v : Value} {xs : List Value} (h : Buf w e' sz v m xs) (hm : MpAt P k e w b n f) (hg : w.grownBy w' (some b)) : Buf w' e' sz v m xs := by
  obtain ⟨hl, A, c, rfl, hnc, hc, hv⟩ := h
  refine ⟨hl, A, c, rfl, hnc, hc, fun h0 => ?_⟩
  obtain ⟨b', o, cur, fr, rfl, hbk, hs, hf, hx⟩ := hv h0
  refine ⟨b', o, cur, fr, rfl, (hg.block b' (Array.getElem?_eq_some_iff.1 hbk).1 (fun e => ?_)).trans hbk, hs, hf, hx⟩
  obtain ⟨es, clock, h2⟩ := hm.is_map
  injection e with e
  subst e
  rw [h2] at hbk
  cases hbk
theorem Blk.mapped {M : Nat} {T : TypeId} {cur : Array Value} (h : Blk w M T cur) (hm : MpAt P k e w b n f) (hg : w.grownBy w' (some b)) : Blk w' M T cur := by
  refine (hg.block M h.lt (fun e => ?_)).trans h
  obtain ⟨es, clock, h2⟩ := hm.is_map
  injection e with e
  subst e
  unfold Blk at h
  rw [h2] at h
  cases h
theorem Blk.grown {M : Nat} {T : TypeId} {cur : Array Value} (h : Blk w M T cur) (hg : w.grownBy w' (some b)) (hne : M ≠ b) : Blk w' M T cur :=
  (hg.block M h.lt (fun e => hne (by injection e))).trans h
theorem MpAt.grown {M : Nat} (h : MpAt P k e w b n f) (hg : w.grownBy w' (some M)) (hne : b ≠ M) : MpAt P k e w' b n f := h.kept hg (fun e => hne (by injection e))
theorem NBuf.mapped {w0 : World} {e' : TypeId} {sz m : Nat} {v : Value} {xs : List Value} (h : NBuf w0 w e' sz v m xs) (hm : MpAt P k e w b n f) (hg : w.grownBy w' (some b)) (hB : w0.heap.size ≤ b) : NBuf w0 w' e' sz v m xs :=
  ⟨h.buf.mapped hm hg, grown_below h.below hg hB (Nat.le_refl _), h.new⟩
end

section
variable {P : Program} (w : World) {ops : Array Oper} {rest : List Oper} {o : Oper} {a : Act} {Q : Exit → Act → World → Prop}
theorem key_of {k : TypeId} (hk : P.underlying k = some .string) (l : List UInt8) (hl : l.length ≤ maxLen) : keyOf P k (.string (bs l)) = some (ky l) := Go.WideMaps.keyOf_string_mk hk (s := bs l) hl
/-- m[k] -/
theorem wpList_lookup_mp (hg : o.guard = none) (m x : Operand) (t : TypeId) (hop : o.op = Op.lookup t m x false) {k e : TypeId} (T : MapTy P t k e) {b n : Nat} {f : List UInt8 → Option Int}
    (hm : a.eval m = .map (some b)) (h : MpAt P k e w b n f) (l : List UInt8) (hx : a.eval x = .string (bs l)) (hl : l.length ≤ maxLen) (z : Int) (hz : (f l).getD 0 = z)
    (hK : wpList P ops Q rest (a.put o.dst (.int .i64 z)) w) : wpList P ops Q (o :: rest) a w := by
  subst hz
  obtain ⟨D, h, hs⟩ := h
  refine wpList_lookup_own_int w hg m x t hop k e .i64 (Maps.string_keyed T.key) T.map T.elem (T.zero w) b n D hm h _ (ky l) hx (key_of T.key l hl) ?_
  intro c hat _
  have := el_inj ((hs.at_ l).symm.trans hat)
  rw [← this]
  exact hK
/-- v, ok := m[k] -/
theorem wpList_lookup_mp_ok (hg : o.guard = none) (m x : Operand) (t : TypeId) (hop : o.op = Op.lookup t m x true) {k e : TypeId} (T : MapTy P t k e) {b n : Nat} {f : List UInt8 → Option Int}
    (hm : a.eval m = .map (some b)) (h : MpAt P k e w b n f) (l : List UInt8) (hx : a.eval x = .string (bs l)) (hl : l.length ≤ maxLen) (z : Int) (hz : (f l).getD 0 = z) (g : Bool) (hg2 : (f l).isSome = g)
    (hK : wpList P ops Q rest (a.put o.dst (.tuple #[.int .i64 z, .bool g])) w) : wpList P ops Q (o :: rest) a w := by
  subst hz; subst hg2
  obtain ⟨D, h, hs⟩ := h
  refine wpList_lookup_own_ok_int w hg m x t hop k e .i64 (Maps.string_keyed T.key) T.map T.elem (T.zero w) b n D hm h _ (ky l) hx (key_of T.key l hl) ?_
  intro c hat _
  have := el_inj ((hs.at_ l).symm.trans hat)
  rw [← this, hs.has]
  exact hK
/-- m[k] = v -/
theorem wpList_update_mp (hg : o.guard = none) (m x v : Operand) (t : TypeId) (hop : o.op = Op.mapUpdate t m x v) {k e : TypeId} (T : MapTy P t k e) {b n : Nat} {f : List UInt8 → Option Int}
    (hm : a.eval m = .map (some b)) (h : MpAt P k e w b n f) (hn : n < maxLen) (l : List UInt8) (hx : a.eval x = .string (bs l)) (hl : l.length ≤ maxLen) (z : Int) (hv : a.eval v = .int .i64 z)
    (hz1 : -9223372036854775808 ≤ z) (hz2 : z ≤ 9223372036854775807)
    (hK : ∀ w', MpAt P k e w' b (n + 1) (upd f l z) → w.grownBy w' (some b) → wpList P ops Q rest (a.put o.dst undef) w') : wpList P ops Q (o :: rest) a w := by
  obtain ⟨D, h, hs⟩ := h
  refine wpList_mapUpdate_own w hg m x v t hop k e (Maps.string_keyed T.key) T.map (plainElem P e) b n D hm h hn _ _ (ky l) hx hv (key_of T.key l hl) (el z) [] (plainElem_int T.elem (WalkArith.wf_i64 (by omega))) ?_
  intro w1 h1 hg1
  exact hK w1 ⟨_, h1, hs.put h.isMap l z⟩ hg1
end
end Go.Bar

/-
  A region that draws its order and writes once, at its end. Plain lemmas over any program; no condition.
-/
namespace Go.Bar
open Go.RowKit

/-- all operations but the last (m) read, or call and leave the world; m leaves w1 -/
def LX (m : Nat) (w0 w1 : World) (D : Nat → Bool) (w : World) : Prop := (D m = false → w = w0) ∧ (D m = true → w = w1 ∧ ∀ i, i < m → D i = true)
section
variable {m i : Nat} {w0 w1 w : World} {D : Nat → Bool}
theorem LX.start : LX m w0 w1 (fun _ => false) w0 := ⟨fun _ => rfl, fun h => by cases h⟩
theorem LX.pure {L : List (Nat × Value)} (hm : (L.lookup m).isSome = true) : ∀ i D wx, L.lookup i = none → LX m w0 w1 D wx → LX m w0 w1 (Dn.upd D i) wx := by
  intro i D wx hi h
  have hne : m ≠ i := by rintro rfl; rw [hi] at hm; cases hm
  refine ⟨fun g => h.1 (by rwa [Dn.upd_ne D hne] at g), fun g => ?_⟩
  rw [Dn.upd_ne D hne] at g
  obtain ⟨h1, h2⟩ := h.2 g
  refine ⟨h1, fun j hj => ?_⟩
  by_cases hji : j = i
  · subst hji; exact Dn.upd_self D j
  · rw [Dn.upd_ne D hji]; exact h2 j hj
theorem LX.no (h : LX m w0 w1 D w) (hi : D i = false) (him : i < m) : D m = false := by
  rcases hd : D m with _ | _
  · rfl
  · have := (h.2 hd).2 i him
    rw [hi] at this; cases this
theorem LX.at_ (h : LX m w0 w1 D w) (hi : D i = false) (him : i < m) : w = w0 := h.1 (h.no hi him)
theorem LX.read (h : LX m w0 w1 D w) (hi : D i = false) (him : i < m) : LX m w0 w1 (Dn.upd D i) w :=
  ⟨fun _ => h.at_ hi him, fun g => by rw [Dn.upd_ne D (by omega), h.no hi him] at g; cases g⟩
theorem LX.read' (hD : D m = false) (him : i < m) : LX m w0 w1 (Dn.upd D i) w0 :=
  ⟨fun _ => rfl, fun g => by rw [Dn.upd_ne D (by omega), hD] at g; cases g⟩
theorem LX.last (h : ∀ i, i < m → D i = true) : LX m w0 w1 (Dn.upd D m) w1 :=
  ⟨fun g => (by rw [Dn.upd_self] at g; cases g), fun _ => ⟨rfl, fun j hj => by rw [Dn.upd_ne D (by omega)]; exact h j hj⟩⟩
theorem LX.end_ (h : LX m w0 w1 D w) (hD : D m = true) : w = w1 := (h.2 hD).1
end
theorem pre_all {ops : Array Oper} {m : Nat} {D : Nat → Bool} (hp : ∀ j, preB ops m j = true → D j = true) (h : ((List.range m).all fun j => preB ops m j) = true) : ∀ i, i < m → D i = true := fun i hi =>
  hp i (List.all_eq_true.1 h i (List.mem_range.2 hi))

/-- the like, where of the end only F is known -/
def LP (m : Nat) (w0 : World) (F : World → Prop) (D : Nat → Bool) (w : World) : Prop := (D m = false → w = w0) ∧ (D m = true → F w ∧ ∀ i, i < m → D i = true)
section
variable {m i : Nat} {w0 w w' : World} {F : World → Prop} {D : Nat → Bool}
theorem LP.start : LP m w0 F (fun _ => false) w0 := ⟨fun _ => rfl, fun h => by cases h⟩
theorem LP.pure {L : List (Nat × Value)} (hm : (L.lookup m).isSome = true) : ∀ i D wx, L.lookup i = none → LP m w0 F D wx → LP m w0 F (Dn.upd D i) wx := by
  intro i D wx hi h
  have hne : m ≠ i := by rintro rfl; rw [hi] at hm; cases hm
  refine ⟨fun g => h.1 (by rwa [Dn.upd_ne D hne] at g), fun g => ?_⟩
  rw [Dn.upd_ne D hne] at g
  obtain ⟨h1, h2⟩ := h.2 g
  refine ⟨h1, fun j hj => ?_⟩
  by_cases hji : j = i
  · subst hji; exact Dn.upd_self D j
  · rw [Dn.upd_ne D hji]; exact h2 j hj
theorem LP.no (h : LP m w0 F D w) (hi : D i = false) (him : i < m) : D m = false := by
  rcases hd : D m with _ | _
  · rfl
  · have := (h.2 hd).2 i him
    rw [hi] at this; cases this
theorem LP.at_ (h : LP m w0 F D w) (hi : D i = false) (him : i < m) : w = w0 := h.1 (h.no hi him)
theorem LP.read (h : LP m w0 F D w) (hi : D i = false) (him : i < m) : LP m w0 F (Dn.upd D i) w :=
  ⟨fun _ => h.at_ hi him, fun g => by rw [Dn.upd_ne D (by omega), h.no hi him] at g; cases g⟩
theorem LP.last (h : ∀ i, i < m → D i = true) (hF : F w') : LP m w0 F (Dn.upd D m) w' :=
  ⟨fun g => (by rw [Dn.upd_self] at g; cases g), fun _ => ⟨hF, fun j hj => by rw [Dn.upd_ne D (by omega)]; exact h j hj⟩⟩
theorem LP.end_ (h : LP m w0 F D w) (hD : D m = true) : F w := (h.2 hD).1
end

/-- a store into a buffer of elements of any size -/
theorem Buf.storeN {w : World} {e : TypeId} {sz n : Nat} {b o c : Nat} {xs : List Value} (h : Buf w e sz (.slice (some ⟨b, o, none⟩) n c) n xs) {j : Nat} (hj : j < n * sz) (u : Value) :
    Buf (w.setCell ⟨b, o + j, none⟩ u) e sz (.slice (some ⟨b, o, none⟩) n c) n (xs.set j u) := by
  obtain ⟨hl, A, c', hv', hnc, hc, hv⟩ := h
  injection hv' with h1 h2 h3
  subst h1; subst h3
  refine ⟨by rw [List.length_set]; exact hl, _, c, rfl, hnc, hc, fun h0 => ?_⟩
  obtain ⟨b', o', cur, fr, h4, hbk, hs, hf, hx⟩ := hv h0
  injection h4 with h4
  injection h4 with h4 h5 _
  subst h4; subst h5
  have hmul : n * sz ≤ c * sz := Nat.mul_le_mul_right _ hnc
  refine ⟨b, o, cur.setIfInBounds (o + j) u, fr, rfl, by simp [World.setCell, Array.getElem?_modify, hbk], by simpa using hs, hf, fun i hi => ?_⟩
  by_cases hij : i = j
  · subst hij
    have hlen : i < xs.length := by rw [hl]; exact hi
    rw [Array.getElem?_setIfInBounds_self_of_lt (by omega), List.getElem?_set_self hlen]
  · rw [Array.getElem?_setIfInBounds_ne (by omega), hx i hi, List.getElem?_set_ne (fun e => hij e.symm)]
/-- the cells of a buffer: what they hold; they may be written -/
theorem Buf.cellN {w : World} {e : TypeId} {sz n b o c : Nat} {xs : List Value} (h : Buf w e sz (.slice (some ⟨b, o, none⟩) n c) n xs) {j : Nat} (hj : j < n * sz) : w.cell? ⟨b, o + j, none⟩ = xs[j]? ∧ w.frozen? ⟨b, o + j, none⟩ = false := by
  obtain ⟨hl, A, c', hv', hnc, hc, hv⟩ := h
  injection hv' with h1 h2 h3
  subst h1; subst h3
  have h0 : 0 < n := by
    rcases Nat.eq_zero_or_pos n with h | h
    · subst h; simp at hj
    · exact h
  obtain ⟨b', o', cur, fr, h4, hbk, hs, hf, hx⟩ := hv (by omega)
  injection h4 with h4
  injection h4 with h4 h5 _
  subst h4; subst h5
  have hmul : n * sz ≤ c * sz := Nat.mul_le_mul_right _ hnc
  refine ⟨(cell_of_block hbk _).trans (hx j hj), ?_⟩
  have := hf (o + j) (by omega) (by omega)
  have e0 : w.frozen? ⟨b, o + j, none⟩ = (decide (fr.1 ≤ o + j) && decide (o + j < fr.2)) := by simp only [World.frozen?, hbk]
  rw [e0, Bool.eq_false_iff]
  intro hh
  simp only [Bool.and_eq_true, decide_eq_true_eq] at hh
  exact this hh
theorem Buf.some_at {w : World} {e : TypeId} {sz n c : Nat} {A : Option Addr} {xs : List Value} (h : Buf w e sz (.slice A n c) n xs) (hn : 0 < n) : ∃ b o, A = some ⟨b, o, none⟩ ∧ b < w.heap.size := by
  obtain ⟨hl, A', c', hv', hnc, hc, hv⟩ := h
  injection hv' with h1 h2 h3
  subst h1; subst h3
  obtain ⟨b, o, cur, fr, rfl, hbk, _⟩ := hv (by omega)
  exact ⟨b, o, rfl, (Array.getElem?_eq_some_iff.1 hbk).1⟩
/-- a store into a buffer leaves one of another element type -/
theorem Buf.set_other {w : World} {e e' : TypeId} {sz sz' n n' b o c' : Nat} {v : Value} {xs xs' : List Value} (h : Buf w e sz v n xs) (h' : Buf w e' sz' (.slice (some ⟨b, o, none⟩) n' c') n' xs') (hn' : 0 < n') (hne : e ≠ e') (i : Nat) (u : Value) : Buf (w.setCell ⟨b, i, none⟩ u) e sz v n xs := by
  obtain ⟨hl, A, c, rfl, hnc, hc, hv⟩ := h
  refine ⟨hl, A, c, rfl, hnc, hc, fun h0 => ?_⟩
  obtain ⟨b1, o1, cur, fr, rfl, hbk, hs, hf, hx⟩ := hv h0
  obtain ⟨hl', A', c2, hv2, hnc', hc2, hv'2⟩ := h'
  injection hv2 with a1 a2 a3
  subst a1; subst a3
  obtain ⟨b2, o2, cur2, fr2, h4, hb2, _⟩ := hv'2 (by omega)
  injection h4 with h4
  injection h4 with h4
  subst h4
  have hbM : b1 ≠ b := by
    rintro rfl
    rw [hbk] at hb2
    injection hb2 with hb2
    injection hb2 with _ hb2 _
    exact hne hb2
  exact ⟨b1, o1, cur, fr, rfl, (Below.heap_setCell w ⟨b, i, none⟩ u b1 hbM).trans hbk, hs, hf, hx⟩
/-- a block of eight cells is stored whole -/
def st8 (w : World) (B : Nat) (v0 v1 v2 v3 v4 v5 v6 v7 : Value) : World := ((((((((w.setCell ⟨B, 0, none⟩ v0).setCell ⟨B, 1, none⟩ v1).setCell ⟨B, 2, none⟩ v2).setCell ⟨B, 3, none⟩ v3).setCell ⟨B, 4, none⟩ v4).setCell ⟨B, 5, none⟩ v5).setCell ⟨B, 6, none⟩ v6).setCell ⟨B, 7, none⟩ v7)
section
variable {w : World} {B : Nat} {v0 v1 v2 v3 v4 v5 v6 v7 : Value} {T : TypeId}
theorem Blk.st8 {a0 a1 a2 a3 a4 a5 a6 a7 : Value} (h : Blk w B T #[a0, a1, a2, a3, a4, a5, a6, a7]) : Blk (st8 w B v0 v1 v2 v3 v4 v5 v6 v7) B T #[v0, v1, v2, v3, v4, v5, v6, v7] := by
  have := ((((((((h.set 0 v0).set 1 v1).set 2 v2).set 3 v3).set 4 v4).set 5 v5).set 6 v6).set 7 v7)
  unfold Go.Bar.st8
  simpa using this
theorem Below.st8 {a : World} {N : Nat} (hb : Below N a w) (hB : N ≤ B) : Below N a (st8 w B v0 v1 v2 v3 v4 v5 v6 v7) := by unfold Go.Bar.st8; exact ((((((((hb.setCell (p := ⟨B, 0, none⟩) hB v0).setCell (p := ⟨B, 1, none⟩) hB v1).setCell (p := ⟨B, 2, none⟩) hB v2).setCell (p := ⟨B, 3, none⟩) hB v3).setCell (p := ⟨B, 4, none⟩) hB v4).setCell (p := ⟨B, 5, none⟩) hB v5).setCell (p := ⟨B, 6, none⟩) hB v6).setCell (p := ⟨B, 7, none⟩) hB v7)
theorem FBuf.st8 {w0 : World} {e : TypeId} {sz n : Nat} {v : Value} {xs : List Value} {cur : Array Value} (h : FBuf w0 w e sz v n xs) (hb : Blk w B T cur) (hne : e ≠ T) : FBuf w0 (st8 w B v0 v1 v2 v3 v4 v5 v6 v7) e sz v n xs :=
  (FBuf.set_ne2 (FBuf.set_ne2 (FBuf.set_ne2 (FBuf.set_ne2 (FBuf.set_ne2 (FBuf.set_ne2 (FBuf.set_ne2 (FBuf.set_ne2 ⟨h, _, hb⟩ hne 0 v0) hne 1 v1) hne 2 v2) hne 3 v3) hne 4 v4) hne 5 v5) hne 6 v6) hne 7 v7).1
end
/-- a literal's row gets its mark: '[]byte("..")' -/
theorem mark_lit {P : Program} {t e e' : TypeId} (ht : P.underlying t = some (.slice e)) (he : P.underlying e = some (.int .u8)) {w : World} {B : Nat} {cur : Array Value} (h : Blk w B e' cur) (n c : Nat) :
    ∃ w', (convert t t (.slice (some ⟨B, 0, none⟩) n c)).run P w = .ok (.slice (some ⟨B, 0, none⟩) n c) w' ∧ w'.heap[B]? = some (.cells cur e' (cur.size, cur.size + 1)) ∧ ∀ N, N ≤ B → Below N w w' := by
  have hb := h
  unfold Blk at hb
  have hsh : w.shape? B = some (e', cur.size) := by unfold World.shape?; rw [hb]
  refine ⟨w.freeze ⟨B, cur.size, none⟩ 1, ?_, ?_, fun N hN => ?_⟩
  · simp [convert, run_underlying ht, run_underlying he, markStringish, hsh]
  · unfold World.freeze
    rw [if_neg (by decide)]
    simp [Array.getElem?_modify, hb]
  · unfold World.freeze
    rw [if_neg (by decide)]
    refine ⟨rfl, rfl, rfl, by simp, fun k hk => ?_⟩
    simp only [Array.getElem?_modify]
    rw [if_neg (by omega)]
theorem ba1 (w : World) (o : Obj) : Below w.heap.size w (w.alloc o) := (Below.refl _ _).alloc (Nat.le_refl _) o
theorem Blk.draws {w : World} {M : Nat} {T : TypeId} {cur : Array Value} (h : Blk w M T cur) : Blk w.drew M T cur := h.drew
/-- a part of the world that operation m turns: A until then, A' from then on -/
def Sw (m : Nat) (A A' : World → Prop) (D : Nat → Bool) (w : World) : Prop := (D m = false → A w) ∧ (D m = true → A' w)
section
variable {m i : Nat} {A A' : World → Prop} {D : Nat → Bool} {w w' : World}
theorem Sw.start (h : A w) : Sw m A A' (fun _ => false) w := ⟨fun _ => h, fun h => by cases h⟩
theorem Sw.same (h : Sw m A A' D w) (hi : m ≠ i) : Sw m A A' (Dn.upd D i) w := ⟨fun g => h.1 (by rwa [Dn.upd_ne D hi] at g), fun g => h.2 (by rwa [Dn.upd_ne D hi] at g)⟩
theorem Sw.keep (h : Sw m A A' D w) (hi : m ≠ i) (h1 : A w → A w') (h2 : A' w → A' w') : Sw m A A' (Dn.upd D i) w' := ⟨fun g => h1 (h.1 (by rwa [Dn.upd_ne D hi] at g)), fun g => h2 (h.2 (by rwa [Dn.upd_ne D hi] at g))⟩
theorem Sw.done (h : A' w') : Sw m A A' (Dn.upd D m) w' := ⟨fun g => (by rw [Dn.upd_self] at g; cases g), fun _ => h⟩
theorem Sw.either (h : Sw m A A' D w) : A w ∨ A' w := by
  rcases hd : D m with _ | _
  · exact .inl (h.1 hd)
  · exact .inr (h.2 hd)
theorem lookup_ne' {L : List (Nat × Value)} (hm : (L.lookup m).isSome = true) (hi : L.lookup i = none) : m ≠ i := by rintro rfl; rw [hi] at hm; cases hm
end
/-- operation m comes behind all ahead of it -/
def Cl (m : Nat) (D : Nat → Bool) : Prop := D m = true → ∀ i, i < m → D i = true
section
variable {m i : Nat} {D : Nat → Bool}
theorem Cl.start : Cl m (fun _ => false) := fun h => by cases h
theorem Cl.upd (h : Cl m D) (hi : m ≠ i) : Cl m (Dn.upd D i) := fun g j hj => by
  rw [Dn.upd_ne D hi] at g
  by_cases hji : j = i
  · subst hji; exact Dn.upd_self D j
  · rw [Dn.upd_ne D hji]; exact h g j hj
theorem Cl.no (h : Cl m D) (hi : D i = false) (him : i < m) : D m = false := by
  rcases hd : D m with _ | _
  · rfl
  · have := h hd i him
    rw [hi] at this; cases this
theorem Cl.last (h : ∀ i, i < m → D i = true) : Cl m (Dn.upd D m) := fun _ j hj => by rw [Dn.upd_ne D (by omega)]; exact h j hj
end

end Go.Bar

/-
  Blocks that are known whole: all their cells at once. Plain lemmas over any program; no condition.
-/
namespace Go.Bar
open Go.RowKit

section
variable {w : World} {M : Nat} {T : TypeId} {a0 a1 a2 a3 a4 a5 a6 a7 a8 a9 a10 a11 : Value}
theorem Blk.c1 (h : Blk w M T #[a0]) : w.cell? ⟨M, 0, none⟩ = some a0 := h.cell (i := 0) rfl
theorem Blk.c2 (h : Blk w M T #[a0, a1]) : w.cell? ⟨M, 0, none⟩ = some a0 ∧ w.cell? ⟨M, 1, none⟩ = some a1 := ⟨h.cell (i := 0) rfl, h.cell (i := 1) rfl⟩
theorem Blk.c3 (h : Blk w M T #[a0, a1, a2]) : w.cell? ⟨M, 0, none⟩ = some a0 ∧ w.cell? ⟨M, 1, none⟩ = some a1 ∧ w.cell? ⟨M, 2, none⟩ = some a2 := ⟨h.cell (i := 0) rfl, h.cell (i := 1) rfl, h.cell (i := 2) rfl⟩
theorem Blk.c4 (h : Blk w M T #[a0, a1, a2, a3]) : w.cell? ⟨M, 0, none⟩ = some a0 ∧ w.cell? ⟨M, 1, none⟩ = some a1 ∧ w.cell? ⟨M, 2, none⟩ = some a2 ∧ w.cell? ⟨M, 3, none⟩ = some a3 := ⟨h.cell (i := 0) rfl, h.cell (i := 1) rfl, h.cell (i := 2) rfl, h.cell (i := 3) rfl⟩
theorem Blk.c5 (h : Blk w M T #[a0, a1, a2, a3, a4]) : w.cell? ⟨M, 0, none⟩ = some a0 ∧ w.cell? ⟨M, 1, none⟩ = some a1 ∧ w.cell? ⟨M, 2, none⟩ = some a2 ∧ w.cell? ⟨M, 3, none⟩ = some a3 ∧ w.cell? ⟨M, 4, none⟩ = some a4 := ⟨h.cell (i := 0) rfl, h.cell (i := 1) rfl, h.cell (i := 2) rfl, h.cell (i := 3) rfl, h.cell (i := 4) rfl⟩
theorem Blk.c6 (h : Blk w M T #[a0, a1, a2, a3, a4, a5]) : w.cell? ⟨M, 0, none⟩ = some a0 ∧ w.cell? ⟨M, 1, none⟩ = some a1 ∧ w.cell? ⟨M, 2, none⟩ = some a2 ∧ w.cell? ⟨M, 3, none⟩ = some a3 ∧ w.cell? ⟨M, 4, none⟩ = some a4 ∧ w.cell? ⟨M, 5, none⟩ = some a5 := ⟨h.cell (i := 0) rfl, h.cell (i := 1) rfl, h.cell (i := 2) rfl, h.cell (i := 3) rfl, h.cell (i := 4) rfl, h.cell (i := 5) rfl⟩
theorem Blk.c7 (h : Blk w M T #[a0, a1, a2, a3, a4, a5, a6]) : w.cell? ⟨M, 0, none⟩ = some a0 ∧ w.cell? ⟨M, 1, none⟩ = some a1 ∧ w.cell? ⟨M, 2, none⟩ = some a2 ∧ w.cell? ⟨M, 3, none⟩ = some a3 ∧ w.cell? ⟨M, 4, none⟩ = some a4 ∧ w.cell? ⟨M, 5, none⟩ = some a5 ∧ w.cell? ⟨M, 6, none⟩ = some a6 := ⟨h.cell (i := 0) rfl, h.cell (i := 1) rfl, h.cell (i := 2) rfl, h.cell (i := 3) rfl, h.cell (i := 4) rfl, h.cell (i := 5) rfl, h.cell (i := 6) rfl⟩
theorem Blk.c8 (h : Blk w M T #[a0, a1, a2, a3, a4, a5, a6, a7]) : w.cell? ⟨M, 0, none⟩ = some a0 ∧ w.cell? ⟨M, 1, none⟩ = some a1 ∧ w.cell? ⟨M, 2, none⟩ = some a2 ∧ w.cell? ⟨M, 3, none⟩ = some a3 ∧ w.cell? ⟨M, 4, none⟩ = some a4 ∧ w.cell? ⟨M, 5, none⟩ = some a5 ∧ w.cell? ⟨M, 6, none⟩ = some a6 ∧ w.cell? ⟨M, 7, none⟩ = some a7 := ⟨h.cell (i := 0) rfl, h.cell (i := 1) rfl, h.cell (i := 2) rfl, h.cell (i := 3) rfl, h.cell (i := 4) rfl, h.cell (i := 5) rfl, h.cell (i := 6) rfl, h.cell (i := 7) rfl⟩
theorem Blk.c9 (h : Blk w M T #[a0, a1, a2, a3, a4, a5, a6, a7, a8]) : w.cell? ⟨M, 0, none⟩ = some a0 ∧ w.cell? ⟨M, 1, none⟩ = some a1 ∧ w.cell? ⟨M, 2, none⟩ = some a2 ∧ w.cell? ⟨M, 3, none⟩ = some a3 ∧ w.cell? ⟨M, 4, none⟩ = some a4 ∧ w.cell? ⟨M, 5, none⟩ = some a5 ∧ w.cell? ⟨M, 6, none⟩ = some a6 ∧ w.cell? ⟨M, 7, none⟩ = some a7 ∧ w.cell? ⟨M, 8, none⟩ = some a8 := ⟨h.cell (i := 0) rfl, h.cell (i := 1) rfl, h.cell (i := 2) rfl, h.cell (i := 3) rfl, h.cell (i := 4) rfl, h.cell (i := 5) rfl, h.cell (i := 6) rfl, h.cell (i := 7) rfl, h.cell (i := 8) rfl⟩
theorem Blk.c10 (h : Blk w M T #[a0, a1, a2, a3, a4, a5, a6, a7, a8, a9]) : w.cell? ⟨M, 0, none⟩ = some a0 ∧ w.cell? ⟨M, 1, none⟩ = some a1 ∧ w.cell? ⟨M, 2, none⟩ = some a2 ∧ w.cell? ⟨M, 3, none⟩ = some a3 ∧ w.cell? ⟨M, 4, none⟩ = some a4 ∧ w.cell? ⟨M, 5, none⟩ = some a5 ∧ w.cell? ⟨M, 6, none⟩ = some a6 ∧ w.cell? ⟨M, 7, none⟩ = some a7 ∧ w.cell? ⟨M, 8, none⟩ = some a8 ∧ w.cell? ⟨M, 9, none⟩ = some a9 := ⟨h.cell (i := 0) rfl, h.cell (i := 1) rfl, h.cell (i := 2) rfl, h.cell (i := 3) rfl, h.cell (i := 4) rfl, h.cell (i := 5) rfl, h.cell (i := 6) rfl, h.cell (i := 7) rfl, h.cell (i := 8) rfl, h.cell (i := 9) rfl⟩
theorem Blk.c11 (h : Blk w M T #[a0, a1, a2, a3, a4, a5, a6, a7, a8, a9, a10]) : w.cell? ⟨M, 0, none⟩ = some a0 ∧ w.cell? ⟨M, 1, none⟩ = some a1 ∧ w.cell? ⟨M, 2, none⟩ = some a2 ∧ w.cell? ⟨M, 3, none⟩ = some a3 ∧ w.cell? ⟨M, 4, none⟩ = some a4 ∧ w.cell? ⟨M, 5, none⟩ = some a5 ∧ w.cell? ⟨M, 6, none⟩ = some a6 ∧ w.cell? ⟨M, 7, none⟩ = some a7 ∧ w.cell? ⟨M, 8, none⟩ = some a8 ∧ w.cell? ⟨M, 9, none⟩ = some a9 ∧ w.cell? ⟨M, 10, none⟩ = some a10 := ⟨h.cell (i := 0) rfl, h.cell (i := 1) rfl, h.cell (i := 2) rfl, h.cell (i := 3) rfl, h.cell (i := 4) rfl, h.cell (i := 5) rfl, h.cell (i := 6) rfl, h.cell (i := 7) rfl, h.cell (i := 8) rfl, h.cell (i := 9) rfl, h.cell (i := 10) rfl⟩
theorem Blk.c12 (h : Blk w M T #[a0, a1, a2, a3, a4, a5, a6, a7, a8, a9, a10, a11]) : w.cell? ⟨M, 0, none⟩ = some a0 ∧ w.cell? ⟨M, 1, none⟩ = some a1 ∧ w.cell? ⟨M, 2, none⟩ = some a2 ∧ w.cell? ⟨M, 3, none⟩ = some a3 ∧ w.cell? ⟨M, 4, none⟩ = some a4 ∧ w.cell? ⟨M, 5, none⟩ = some a5 ∧ w.cell? ⟨M, 6, none⟩ = some a6 ∧ w.cell? ⟨M, 7, none⟩ = some a7 ∧ w.cell? ⟨M, 8, none⟩ = some a8 ∧ w.cell? ⟨M, 9, none⟩ = some a9 ∧ w.cell? ⟨M, 10, none⟩ = some a10 ∧ w.cell? ⟨M, 11, none⟩ = some a11 := ⟨h.cell (i := 0) rfl, h.cell (i := 1) rfl, h.cell (i := 2) rfl, h.cell (i := 3) rfl, h.cell (i := 4) rfl, h.cell (i := 5) rfl, h.cell (i := 6) rfl, h.cell (i := 7) rfl, h.cell (i := 8) rfl, h.cell (i := 9) rfl, h.cell (i := 10) rfl, h.cell (i := 11) rfl⟩
end
/-- m[k], an operation of a region that draws its order -/
theorem oper_lookup_mp {P : Program} {w : World} {o : Oper} {a : Act} {K : Act → World → Prop} {Q : Exit → Act → World → Prop} (m x : Operand) (t : TypeId) (hop : o.op = Op.lookup t m x false) {k e : TypeId} (T : MapTy P t k e) {b n : Nat} {f : List UInt8 → Option Int}
    (hm : a.eval m = .map (some b)) (h : MpAt P k e w b n f) (l : List UInt8) (hx : a.eval x = .string (bs l)) (hl : l.length ≤ maxLen) (z : Int) (hz : (f l).getD 0 = z)
    (hK : K (a.put o.dst (.int .i64 z)) w) : Oper.wp P o a w K Q := by
  subst hz
  obtain ⟨D, h, hs⟩ := h
  obtain ⟨c, hrun, hat, hwc⟩ := h.lookup_int (Maps.string_keyed T.key) T.map T.elem (T.zero w) (key_of T.key l hl)
  have := el_inj ((hs.at_ l).symm.trans hat)
  unfold Oper.wp
  simp [execOp, hop, hm, hx, hrun, Result.andThen]
  rw [← this]
  exact hK
end Go.Bar
