/-
  Facts for the rule of Lib7: a region in which some operations write, one behind the other, and all others leave the world alone. Plain lemmas over any program; no condition.
-/
import Derived.Test.YtgabmfibfikdbaaGreatDoorZLib7
import Derived.Test.YtgabmfibfikdbaaGreatDoorZFrmN
import Derived.Test.YtgabmfibfikdbaaGreatDoorZLib4
import Derived.Test.YtgabmfibfikdbaaGreatDoorZLabM
import Derived.Test.YtgabmfibfikdbaaGreatDoorZBokN
import Derived.BigRegion

namespace Go.Bar.Dk
open Go.RowKit Go.Bar

/-- only the operations of ws write -/
def RWs (ws : List Nat) : Nat → World → World → Prop := fun i w w' => ws.contains i = false → w' = w
theorem RWs.yes {ws : List Nat} {i : Nat} {w w' : World} (h : ws.contains i = true) : RWs ws i w w' := fun h' => by rw [h] at h'; cases h'
theorem RWs.no {ws : List Nat} {i : Nat} {w : World} : RWs ws i w w := fun _ => rfl
/-- a fact of a value that holds until operation m is done -/
def KF (m : Nat) (F : Value → World → Prop) : Value → (Nat → Bool) → World → Prop := fun v D w => D m = false → F v w
/-- a fact of a value that holds from then on -/
def KL (F : Value → World → Prop) : Value → (Nat → Bool) → World → Prop := fun v _ w => F v w
theorem KF.keep {ops : Array Oper} {ws : List Nat} {k m : Nat} {F : Value → World → Prop} (h : (ws.all fun x => x == k || x == m || preB ops x m || preB ops k x) = true) :
    ∀ i D v w w', D i = false → D k = true → (∀ j, preB ops i j = true → D j = true) → (∀ k j, D k = true → preB ops k j = true → D j = true) → RWs ws i w w' → KF m F v D w → KF m F v (Dn.upd D i) w' := by
  intro i D v w w' hi hk hpre hcl hR hg hu
  by_cases him : i = m
  · subst him; rw [Dn.upd_self] at hu; cases hu
  · rw [Dn.upd_ne D (fun h => him h.symm)] at hu
    have hno : ws.contains i = false := by
      rcases hc : ws.contains i with _ | _
      · rfl
      · exfalso
        have := List.all_eq_true.1 h i (List.contains_iff_mem.1 hc)
        simp only [Bool.or_eq_true, beq_iff_eq] at this
        rcases this with ((h1 | h1) | h1) | h1
        · subst h1; rw [hi] at hk; cases hk
        · exact him h1
        · rw [hpre m h1] at hu; cases hu
        · rw [hcl k i hk h1] at hi; cases hi
    rw [hR hno]
    exact hg hu
theorem KL.keep {ops : Array Oper} {ws : List Nat} {k : Nat} {F : Value → World → Prop} (h : (ws.all fun x => x == k || preB ops k x) = true) :
    ∀ i D v w w', D i = false → D k = true → (∀ j, preB ops i j = true → D j = true) → (∀ k j, D k = true → preB ops k j = true → D j = true) → RWs ws i w w' → KL F v D w → KL F v (Dn.upd D i) w' := by
  intro i D v w w' hi hk hpre hcl hR hg
  have hno : ws.contains i = false := by
    rcases hc : ws.contains i with _ | _
    · rfl
    · exfalso
      have := List.all_eq_true.1 h i (List.contains_iff_mem.1 hc)
      simp only [Bool.or_eq_true, beq_iff_eq] at this
      rcases this with h1 | h1
      · subst h1; rw [hi] at hk; cases hk
      · rw [hcl k i hk h1] at hi; cases hi
  rw [hR hno]
  exact hg
theorem KF.pure {m : Nat} {F : Value → World → Prop} {i : Nat} {D : Nat → Bool} {v : Value} {w : World} (h : KF m F v D w) : KF m F v (Dn.upd D i) w := by
  intro hu
  by_cases him : m = i
  · subst him; rw [Dn.upd_self] at hu; cases hu
  · rw [Dn.upd_ne D him] at hu; exact h hu
theorem atK_get' {M : List (Nat × ((Nat → Bool) → World → Prop))} {k : Nat} {p : (Nat → Bool) → World → Prop} {D : Nat → Bool} {w : World} (h : atK M k D w) (hk : M.lookup k = some p) : p D w := by
  unfold atK at h
  rw [hk] at h
  exact h
/-- only the operations of ws write what was there -/
def RB (n : Nat) (ws : List Nat) : Nat → World → World → Prop := fun i w w' => i < n ∧ (ws.contains i = false → Below w.heap.size w w')
theorem RB.of {n : Nat} {ws : List Nat} {i : Nat} {w w' : World} (hi : i < n) (h : Below w.heap.size w w') : RB n ws i w w' := ⟨hi, fun _ => h⟩
theorem RB.yes {n : Nat} {ws : List Nat} {i : Nat} {w w' : World} (hi : i < n) (h : ws.contains i = true) : RB n ws i w w' := ⟨hi, fun h' => by rw [h] at h'; cases h'⟩
/-- how the world stands: as F0 says until operation m is done, and as C says all along -/
def SX (m : Nat) (F0 : World → Prop) (C : World → Prop) : (Nat → Bool) → World → Prop := fun D w => (D m = false → F0 w) ∧ C w
theorem SX.pure {m : Nat} {F0 C : World → Prop} {L : List (Nat × ((Value → Prop) × (Value → (Nat → Bool) → World → Prop)))} (hm : (L.lookup m).isSome = true) : ∀ i D w, L.lookup i = none → SX m F0 C D w → SX m F0 C (Dn.upd D i) w := by
  intro i D w hi ⟨h1, h2⟩
  have hne : m ≠ i := by rintro rfl; rw [hi] at hm; cases hm
  exact ⟨fun h => h1 (by rwa [Dn.upd_ne D hne] at h), h2⟩
theorem SX.other {m i : Nat} {F0 C : World → Prop} {D : Nat → Bool} {w : World} (h : SX m F0 C D w) (hne : m ≠ i) : SX m F0 C (Dn.upd D i) w := ⟨fun g => h.1 (by rwa [Dn.upd_ne D hne] at g), h.2⟩
theorem SX.call {m i : Nat} {F0 C : World → Prop} {D : Nat → Bool} {w w' : World} (h : SX m F0 C D w) (hne : m ≠ i) (h1 : F0 w → F0 w') (h2 : C w') : SX m F0 C (Dn.upd D i) w' := ⟨fun g => h1 (h.1 (by rwa [Dn.upd_ne D hne] at g)), h2⟩
theorem SX.first {m : Nat} {F0 C : World → Prop} {D : Nat → Bool} {w : World} (hc : C w) : SX m F0 C (Dn.upd D m) w := ⟨fun g => (by rw [Dn.upd_self] at g; cases g), hc⟩
theorem SX.later {m i : Nat} {F0 C : World → Prop} {D : Nat → Bool} {w : World} (hm : D m = true) (hne : m ≠ i) (hc : C w) : SX m F0 C (Dn.upd D i) w := ⟨fun g => (by rw [Dn.upd_ne D hne, hm] at g; cases g), hc⟩

section
variable {P : Program} {ops : Array Oper} {G : Nat → Option ((Value → Prop) × (Value → (Nat → Bool) → World → Prop))} {R : Nat → World → World → Prop} {X : (Nat → Bool) → World → Prop} {Qn : Act → World → Prop}
theorem Chain.end_facts {M : List (Nat × ((Nat → Bool) → World → Prop))} {i : Nat} {a : Act} (h : ∀ D w, X D w → (∀ j, atK M j D w) → Qn a w) : Chain P ops G R X Qn i [] a (atK M) := fun D w _ hx hF => h D w hx hF
end

end Go.Bar.Dk

/-
  Layer 9: the walks of meta's writers: fields, Put, Encode, EncodeMark.
-/
namespace Go.Proofs.YtgabmfibfikdbaaGreatDoor
open Go.RowKit Go.Bar Go.Bar.Leb Go.Bar.Frm Go.Bar.Idt Go.Bar.Met

theorem wrap_w64 (z : Int) : IntKind.u64.wrap z = ((w64 z : Nat) : Int) := by
  unfold w64
  rw [IntKind.wrap_u64]
  omega
theorem uint_w (V : Value) (xs : List UInt8) (z : Int) (W : World) (hx : xs.length + 10 ≤ 140737488355328) (hb : BBuf W 5 V xs) : Calls Tryz.prog 48 #[V, .int .u64 (IntKind.u64.wrap z)] W (RetB W V 5 xs (u (w64 z))) := by
  rw [wrap_w64]
  exact uint_any V xs (w64 z) W (w64_lt z) hx hb

end Go.Proofs.YtgabmfibfikdbaaGreatDoor

/-
  Blocks that are known whole, beside buffers and frames (Fr). Plain lemmas over any program; no condition.
-/
namespace Go.Bar
open Go.RowKit

/-- a block that may be written: its cells -/
def Blk (w : World) (M : Nat) (T : TypeId) (cur : Array Value) : Prop := w.heap[M]? = some (.cells cur T (0, 0))
section
variable {w w' : World} {M : Nat} {T : TypeId} {cur : Array Value}
theorem Blk.new (w : World) (cur : Array Value) (T : TypeId) : Blk (w.alloc (.cells cur T)) w.heap.size T cur := heap_alloc_new w _
theorem Blk.lt (h : Blk w M T cur) : M < w.heap.size := (Array.getElem?_eq_some_iff.1 h).1
theorem Blk.cell (h : Blk w M T cur) {i : Nat} {u : Value} (hu : cur[i]? = some u) : w.cell? ⟨M, i, none⟩ = some u := (cell_of_block h i).trans hu
theorem Blk.free (h : Blk w M T cur) (i : Nat) : w.frozen? ⟨M, i, none⟩ = false := by
  unfold Blk at h
  simp [World.frozen?, h]
theorem Blk.set (h : Blk w M T cur) (i : Nat) (v : Value) : Blk (w.setCell ⟨M, i, none⟩ v) M T (cur.setIfInBounds i v) := by
  unfold Blk at h ⊢
  simp [World.setCell, Array.getElem?_modify, h]
theorem Blk.other (h : Blk w M T cur) {b : Nat} (hb : M ≠ b) (i : Nat) (v : Value) : Blk (w.setCell ⟨b, i, none⟩ v) M T cur := (Below.heap_setCell w ⟨b, i, none⟩ v M hb).trans h
theorem Blk.below (h : Blk w M T cur) (hb : Below w.heap.size w w') : Blk w' M T cur := (hb.block M h.lt).trans h
theorem Blk.belowB (h : Blk w M T cur) {B : Nat} (hb : Below B w w') (hB : M < B) : Blk w' M T cur := (hb.block M hB).trans h
theorem Blk.alloc (h : Blk w M T cur) (o : Obj) : Blk (w.alloc o) M T cur := h.below ((Below.refl _ _).alloc (Nat.le_refl _) o)
theorem Blk.drew (h : Blk w M T cur) : Blk w.drew M T cur := h.below (Below.refl _ _).drew
theorem Blk.drewN (h : Blk w M T cur) (n : Nat) : Blk (w.drewN n) M T cur := h.below (below_draws w n)
theorem Blk.fr (h : Blk w M T cur) {S : Nat → Nat → Prop} (hf : Fr S w w') (hS : ∀ i, ¬ S M i) : Blk w' M T cur := (hf.block h.lt hS).trans h
/-- an append to a buffer of another element type leaves it -/
theorem Blk.ap (h : Blk w M T cur) {e : TypeId} {sz n : Nat} {v : Value} {xs : List Value} (hb : Buf w e sz v n xs) (ha : Ap w w' sz v) (hne : e ≠ T) : Blk w' M T cur := by
  rcases ha.block M h.lt with h1 | ⟨o, n', c, cur1, cur', e1, fr, rfl, hw, hw', hsz, hi⟩
  · exact h1.trans h
  · unfold Blk at h ⊢
    rw [hw'] 
    rw [h] at hw
    injection hw with hw
    injection hw with g1 g2 g3
    subst g1; subst g2; subst g3
    obtain ⟨hl, A, c', hv', hnc, hc, hv⟩ := hb
    injection hv' with a1 a2 a3
    subst a1; subst a2; subst a3
    rcases Nat.eq_zero_or_pos c with h0 | h0
    · subst h0
      have : cur' = cur := Array.ext_getElem? (fun i => hi i (by rw [show n' = 0 by omega]; omega))
      rw [this]
    · obtain ⟨b2, o2, cur2, fr2, h4, hb2, _⟩ := hv h0
      injection h4 with h4
      injection h4 with h4
      subst h4
      rw [h] at hb2
      injection hb2 with hb2
      injection hb2 with _ g2 _
      exact absurd g2.symm hne
end
/-- a store to a block of another element type leaves a buffer -/
theorem Buf.set_ne {w : World} {e : TypeId} {sz n : Nat} {v : Value} {xs : List Value} (h : Buf w e sz v n xs) {M : Nat} {T : TypeId} {cur : Array Value} (hb : Blk w M T cur) (hne : e ≠ T) (i : Nat) (u : Value) : Buf (w.setCell ⟨M, i, none⟩ u) e sz v n xs := by
  obtain ⟨hl, A, c, rfl, hnc, hc, hv⟩ := h
  refine ⟨hl, A, c, rfl, hnc, hc, fun h0 => ?_⟩
  obtain ⟨b, o, cur', fr, rfl, hbk, hs, hf, hx⟩ := hv h0
  have hbM : b ≠ M := by
    rintro rfl
    unfold Blk at hb
    rw [hbk] at hb
    injection hb with hb
    injection hb with _ hb _
    exact hne hb
  exact ⟨b, o, cur', fr, rfl, (Below.heap_setCell w ⟨M, i, none⟩ u b hbM).trans hbk, hs, hf, hx⟩

/-- a buffer whose block, if any, has been made since w -/
structure FBuf (w wr : World) (e : TypeId) (sz : Nat) (v : Value) (n : Nat) (xs : List Value) : Prop where
  buf : Buf wr e sz v n xs
  new : ∀ k, v.ownBlock = some k → w.heap.size ≤ k
section
variable {w wr w' : World} {e e' : TypeId} {sz sz' n n' : Nat} {v v' : Value} {xs xs' : List Value}
theorem FBuf.nil (w wr : World) (e : TypeId) (sz : Nat) : FBuf w wr e sz (.slice none 0 0) 0 [] := ⟨Buf.nil _ _ _, by simp [Value.ownBlock]⟩
theorem FBuf.below (h : FBuf w wr e sz v n xs) (hb : Below wr.heap.size wr w') : FBuf w w' e sz v n xs := ⟨h.buf.below hb, h.new⟩
theorem FBuf.alloc (h : FBuf w wr e sz v n xs) (o : Obj) : FBuf w (wr.alloc o) e sz v n xs := ⟨h.buf.alloc o, h.new⟩
theorem FBuf.drew (h : FBuf w wr e sz v n xs) : FBuf w wr.drew e sz v n xs := ⟨h.buf.drew, h.new⟩
theorem FBuf.fr (h : FBuf w wr e sz v n xs) {S : Nat → Nat → Prop} (hf : Fr S wr w') (hS : ∀ k i, w.heap.size ≤ k → ¬ S k i) : FBuf w w' e sz v n xs := ⟨hf.buf h.buf (fun k i hk => hS k i (h.new k hk)), h.new⟩
theorem FBuf.set_ne (h : FBuf w wr e sz v n xs) {M : Nat} {T : TypeId} {cur : Array Value} (hb : Blk wr M T cur) (hne : e ≠ T) (i : Nat) (u : Value) : FBuf w (wr.setCell ⟨M, i, none⟩ u) e sz v n xs := ⟨h.buf.set_ne hb hne i u, h.new⟩
theorem FBuf.set_ne2 {M : Nat} {T : TypeId} (h : FBuf w wr e sz v n xs ∧ ∃ cur, Blk wr M T cur) (hne : e ≠ T) (i : Nat) (u : Value) : FBuf w (wr.setCell ⟨M, i, none⟩ u) e sz v n xs ∧ ∃ cur, Blk (wr.setCell ⟨M, i, none⟩ u) M T cur := by
  obtain ⟨hf, cur, hb⟩ := h
  exact ⟨hf.set_ne hb hne i u, _, hb.set i u⟩
theorem FBuf.step (h : FBuf w wr e sz v n xs) (hw : w.heap.size ≤ wr.heap.size) (hb : Buf w' e sz v' n' xs') (hg : Grew wr v v') : FBuf w w' e sz v' n' xs' := ⟨hb, hg.new hw h.new⟩
theorem FBuf.keep (h : FBuf w wr e sz v n xs) (h' : Buf wr e' sz' v' n' xs') (ha : Ap wr w' sz' v') (hne : e ≠ e') : FBuf w w' e sz v n xs := ⟨h.buf.keep_ap h' ha hne, h.new⟩
theorem FBuf.slice (h : FBuf w wr e sz v n xs) : SlAt wr sz v n xs := SlAt.of_buf h.buf
theorem FBuf.older {w0 : World} (h : FBuf w wr e sz v n xs) (hle : w0.heap.size ≤ w.heap.size) : FBuf w0 wr e sz v n xs := ⟨h.buf, fun k hk => Nat.le_trans hle (h.new k hk)⟩
/-- what an append to such a buffer leaves -/
theorem FBuf.belowB (h : FBuf w wr e sz v n xs) (hw : w.heap.size ≤ wr.heap.size) (ha : Ap wr w' sz v) : Below w.heap.size wr w' := ha.below hw h.new
end

/-- append(b, literal), b made since W -/
theorem wpList_append_flit {P : Program} {ops : Array Oper} {rest : List Oper} {o : Oper} {a : Act} {Q : Exit → Act → World → Prop} {w : World} (hgd : o.guard = none) (s x : Operand) (t : TypeId)
    (ho : o.op = .call { callee := .builtin .append, args := #[s, x], argTypes := #[t, t] })
    {e : TypeId} {z : Value} {sz bytes : Nat} (hT : ElemTy P t e z sz bytes)
    {v : Value} {m k : Nat} {ys news : List Value} (hv : a.eval s = v) (h : Buf w e sz v m ys) {H : Nat} (hx : a.eval x = .slice (some ⟨H, 0, none⟩) k k) (hH : w.heap.size = H)
    (hl : news.length = k * sz) (h1 : ∀ u ∈ news, u.oneCell' = true) (h63 : m + k ≤ maxLen) (hbytes : (m + k) * bytes ≤ 140737488355328)
    (K : ∀ v' w', Buf w' e sz v' (m + k) (ys ++ news) → Ap (w.alloc (.cells news.toArray e)) w' sz v → Grew (w.alloc (.cells news.toArray e)) v v' → wpList P ops Q rest (a.put o.dst v') w') : wpList P ops Q (o :: rest) a (w.alloc (.cells news.toArray e)) :=
  wpList_append_el hgd s x t t ho hT hv (h.alloc _) (hx.trans (by rw [hH])) ((Buf.lit w e sz k news hl (by omega)).src hT.slice h1) h63 hbytes K
/-- append as a step of a region that draws its order -/
theorem step_append_buf {P : Program} {ops : Array Oper} {o : Oper} {a : Act} {w : World} {K : Act → World → Prop} {Q : Exit → Act → World → Prop} {E : Prop} (hgd : o.guard = none) (s x : Operand) (t : TypeId)
    (ho : o.op = .call { callee := .builtin .append, args := #[s, x], argTypes := #[t, t] }) {e : TypeId} {z : Value} {sz bytes : Nat} (hT : ElemTy P t e z sz bytes)
    {v y : Value} {n k : Nat} {xs news : List Value} (hv : a.eval s = v) (h : Buf w e sz v n xs) (hx : a.eval x = y) (hs : Src P sz t y k news w)
    (h63 : n + k ≤ maxLen) (hbytes : (n + k) * bytes ≤ 140737488355328)
    (hK : ∀ v' w', Buf w' e sz v' (n + k) (xs ++ news) → Ap w w' sz v → Grew w v v' → K (a.put o.dst v') w') : if Region.wanted o (yielded ops a.tmps) = true then Oper.wp P o a w K Q else E := by
  have hw : Region.wanted o (yielded ops a.tmps) = true := by simp [Region.wanted, hgd]
  rw [if_pos hw]
  obtain ⟨i, hi, hz, h1, h2⟩ := hT.info
  obtain ⟨v', w', hr, g2, g3, g4⟩ := run_append_buf (P := P) t t o.type i z bytes hT.slice hi hz h1 h2 hT.zs h y k news hs h63 hbytes
  unfold Oper.wp execOp
  simp only [ho, resolve, invoke, builtin, Sem.run_bind, Sem.run_pure, Result.andThen_ok, List.map_toArray, List.map_cons, List.map_nil, hv, hx, hr]
  exact hK _ _ g2 g3 g4

end Go.Bar

/-
  Layer 6: the walks of label's functions that look at pairs (goodName, Check, Get, Key).
-/
namespace Go.Proofs.YtgabmfibfikdbaaGreatDoor
open Go.RowKit Go.Bar Go.Bar.Leb Go.Bar.Lab

/-- pairs as cells -/
def pcs (l : List Pr) : List Value := l.flatMap fun p => [.string (bs p.1), .string (bs p.2)]
theorem pcs_append (l m : List Pr) : pcs (l ++ m) = pcs l ++ pcs m := List.flatMap_append
theorem pcs_snoc (l : List Pr) (p : Pr) : pcs (l ++ [p]) = pcs l ++ [.string (bs p.1), .string (bs p.2)] := by simp [pcs]
theorem pcs_one (l : List Pr) : ∀ u ∈ pcs l, u.oneCell' = true := by
  intro u hu
  unfold pcs at hu
  rw [List.mem_flatMap] at hu
  obtain ⟨p, _, hp⟩ := hu
  simp only [List.mem_cons, List.not_mem_nil, or_false] at hp
  rcases hp with rfl | rfl <;> rfl
/-- a slice of pairs -/
def PsAt (w : World) (v : Value) (l : List Pr) : Prop := SlAt w 2 v l.length (pcs l)
section
variable {w w' : World} {v : Value} {l : List Pr}
theorem PsAt.below (h : PsAt w v l) (hb : Below w.heap.size w w') : PsAt w' v l := SlAt.below h hb
theorem PsAt.shape (h : PsAt w v l) : ∃ A c, v = .slice A l.length c ∧ l.length ≤ c ∧ c ≤ maxLen := SlAt.shape h
theorem PsAt.at_ {A : Option Addr} {n c i : Nat} {p : Pr} (h : PsAt w (.slice A n c) l) (hi : l[i]? = some p) : ∃ b o, A = some ⟨b, o, none⟩ ∧ b < w.heap.size ∧ w.cell? ⟨b, o + i * 2, none⟩ = some (.string (bs p.1)) ∧ w.cell? ⟨b, o + i * 2 + 1, none⟩ = some (.string (bs p.2)) := by
  have hlt : i < l.length := (List.getElem?_eq_some_iff.1 hi).1
  obtain ⟨A', c', he, _⟩ := h.shape
  injection he with h1 h2 h3
  subst h1; subst h2; subst h3
  obtain ⟨b, o, rfl, hb, hc⟩ := SlAt.cells h (by omega)
  obtain ⟨g1, g2⟩ := flat2 (fun p : Pr => .string (bs p.1)) (fun p : Pr => .string (bs p.2)) l i p hi
  exact ⟨b, o, rfl, hb, hc _ _ g1, hc _ _ g2⟩
end
theorem below_alloc1 (w : World) (o : Obj) : Below w.heap.size w (w.alloc o) := (Below.refl _ _).alloc (Nat.le_refl _) o

/-- where a byte lies -/
theorem byte_rng (c : UInt8) : (c.toNat : Int) < 48 ∨ (48 ≤ (c.toNat : Int) ∧ (c.toNat : Int) ≤ 57) ∨ (57 < (c.toNat : Int) ∧ (c.toNat : Int) < 65) ∨ (65 ≤ (c.toNat : Int) ∧ (c.toNat : Int) ≤ 90) ∨ (90 < (c.toNat : Int) ∧ (c.toNat : Int) < 97 ∧ (c.toNat : Int) ≠ 95) ∨ (c.toNat : Int) = 95 ∨
    (97 ≤ (c.toNat : Int) ∧ (c.toNat : Int) ≤ 122) ∨ 122 < (c.toNat : Int) := by omega
theorem letter_nat (c : UInt8) : letter c = decide (97 ≤ (c.toNat : Int) ∧ (c.toNat : Int) ≤ 122 ∨ 65 ≤ (c.toNat : Int) ∧ (c.toNat : Int) ≤ 90 ∨ (c.toNat : Int) = 95) := by
  unfold letter
  rw [decide_eq_decide, UInt8.le_iff_toNat_le, UInt8.le_iff_toNat_le, UInt8.le_iff_toNat_le, UInt8.le_iff_toNat_le, ← UInt8.toNat_inj]
  simp
  omega
theorem digit_nat (c : UInt8) : digit c = decide (48 ≤ (c.toNat : Int) ∧ (c.toNat : Int) ≤ 57) := by
  unfold digit
  rw [decide_eq_decide, UInt8.le_iff_toNat_le, UInt8.le_iff_toNat_le]
  simp
  omega
theorem sign_letter {c : UInt8} (h : 97 ≤ (c.toNat : Int) ∧ (c.toNat : Int) ≤ 122 ∨ 65 ≤ (c.toNat : Int) ∧ (c.toNat : Int) ≤ 90 ∨ (c.toNat : Int) = 95) (f : Bool) : signB f c = true := by
  unfold signB; rw [letter_nat, decide_eq_true h, Bool.true_or]
theorem sign_digit {c : UInt8} (h : 48 ≤ (c.toNat : Int) ∧ (c.toNat : Int) ≤ 57) (f : Bool) : signB f c = !f := by
  unfold signB
  rw [letter_nat, digit_nat, decide_eq_false (by omega), decide_eq_true h, Bool.false_or, Bool.and_true]
theorem sign_other {c : UInt8} (h : ¬ (97 ≤ (c.toNat : Int) ∧ (c.toNat : Int) ≤ 122 ∨ 65 ≤ (c.toNat : Int) ∧ (c.toNat : Int) ≤ 90 ∨ (c.toNat : Int) = 95)) (h2 : ¬ (48 ≤ (c.toNat : Int) ∧ (c.toNat : Int) ≤ 57)) (f : Bool) : signB f c = false := by
  unfold signB
  rw [letter_nat, digit_nat, decide_eq_false h, decide_eq_false h2, Bool.and_false]; rfl

/-- all signs up to the k-th may stand there -/
def signs (l : List UInt8) (k : Nat) : Prop := ∀ j c, j < k → l[j]? = some c → signB (j == 0) c = true
theorem signs_zero (l : List UInt8) : signs l 0 := fun j _ h => absurd h (Nat.not_lt_zero j)
theorem signs_succ {l : List UInt8} {k : Nat} {c : UInt8} (h : signs l k) (hc : l[k]? = some c) (hs : signB (k == 0) c = true) : signs l (k + 1) := by
  intro j d hj hd
  by_cases hjk : j < k
  · exact h j d hjk hd
  · obtain rfl : j = k := by omega
    rw [hc] at hd
    injection hd with hd
    subst hd
    exact hs
theorem sign_weak {c : UInt8} {b : Bool} (h : signB b c = true) : signB false c = true := by
  unfold signB at *
  rcases hl : letter c with _ | _
  · rw [hl] at h
    simp at h ⊢
    exact h.2
  · rfl
theorem nameB_signs {l : List UInt8} (h : signs l l.length) : nameB l = (!l.isEmpty && decide (l.length ≤ 40)) := by
  unfold nameB
  cases l with
  | nil => rfl
  | cons c r =>
    have h0 : signB true c = true := h 0 c (by simp) rfl
    have ha : (c :: r).all (signB false) = true := by
      rw [List.all_eq_true]
      intro x hx
      obtain ⟨i, hi, he⟩ := List.mem_iff_getElem.1 hx
      exact sign_weak (h i x hi (by rw [List.getElem?_eq_getElem hi, he]))
    rw [ha]
    simp [h0]
theorem nameB_bad {l : List UInt8} {k : Nat} {c : UInt8} (hc : l[k]? = some c) (hs : signB (k == 0) c = false) : nameB l = false := by
  unfold nameB
  cases l with
  | nil => rfl
  | cons d r =>
    match k with
    | 0 =>
      simp at hc
      subst hc
      have hs : signB true d = false := hs
      simp [hs]
    | k + 1 =>
      have : (d :: r).all (signB false) = false := by
        rw [Bool.eq_false_iff]
        intro h
        rw [List.all_eq_true] at h
        have := h c (List.mem_of_getElem? hc)
        rw [show signB ((k + 1) == 0) c = signB false c from rfl, this] at hs
        cases hs
      rw [this]
      simp

set_option maxHeartbeats 4000000 in
set_option maxRecDepth 10000 in
theorem goodName_any (l : List UInt8) (w : World) (hl : l.length ≤ 1000000000000) :
    Calls Tryz.prog 95 #[.string (bs l)] w (RetBelow w (.bool (nameB l))) := by
  obtain ⟨Z, hZ⟩ : ∃ Z, Z = nameB l := ⟨_, rfl⟩
  rw [← hZ]
  have HZ := Lib.hid hZ
  clear hZ
  go_enter Tryz.func95, Tryz.ntmps95
  go_wp2_with (refine wpList_bytes rfl (.tmp 6) 96 9 rfl bytes_ty Tryz.underlying9 _ rfl (by rw [bs_size]; unfold maxLen; omega) ?_; intro v w1 hb hbl _; obtain ⟨A, c, rfl, hlc⟩ := Buf.shape hb; dsimp only)
  rw [bs_data] at *
  go_loop [9] (fun i => ∃ k : Nat, k ≤ l.length ∧ i = .int .i64 k ∧ Hid (signs l k)) (fun i => l.length - (intOf i).toNat)
  case atStart => exact ⟨0, Nat.zero_le _, rfl, Lib.hid (signs_zero l)⟩
  case round =>
    obtain ⟨k, hk, rfl, hsg⟩ := hrel
    by_cases hgo : k < l.length
    · obtain ⟨c, hc⟩ : ∃ c, l[k]? = some c := ⟨_, List.getElem?_eq_getElem hgo⟩
      obtain ⟨b, o, rfl, hbb, hcc⟩ := Buf.cell hb (by omega)
      have hcell : w1.cell? ⟨b, o + k, none⟩ = some (.int .u8 (c.toNat : Int)) := by
        rw [hcc k (by omega)]; simp [bcs, hc]
      have HC := Lib.hid hc
      have HB := Lib.hid hb
      have h0 : k = 0 ∨ 0 < k := by omega
      have hrng := byte_rng c
      clear hc hb hcc
      rcases hrng with h1 | ⟨h1, h2⟩ | ⟨h1, h2⟩ | ⟨h1, h2⟩ | ⟨h1, h2, h3⟩ | h1 | ⟨h1, h2⟩ | h1
      case inr.inl =>
        have hs := sign_digit ⟨h1, h2⟩
        have HS := Lib.hid hs
        clear hs
        have hne : ((c.toNat : Int) == 95) = false := by rw [beq_eq_false_iff_ne]; omega
        rcases h0 with h0 | h0
        · have hk0 : ((k : Int) == 0) = true := by rw [beq_iff_eq]; omega
          have hk1 : (k == 0) = true := by rw [beq_iff_eq]; omega
          have HK1 := Lib.hid hk1
          clear hk1 h0
          go_wp2_with fail
          go_ret
          exact ⟨by rw [HZ.out, nameB_bad HC.out (by rw [HS.out, HK1.out]; rfl)]; rfl, hbl⟩
        · have hk0 : ((k : Int) == 0) = false := by rw [beq_eq_false_iff_ne]; omega
          go_wp2_with fail
          go_round
          case rel => exact ⟨k + 1, by omega, by go_num, Lib.hid (signs_succ hsg.out HC.out (by rw [HS.out, show (k == 0) = false from by rw [beq_eq_false_iff_ne]; omega]; rfl))⟩
          case measure => simp [intOf]; omega
      case inr.inr.inr.inr.inr.inl =>
        have hs := sign_letter (.inr (.inr h1))
        have HS := Lib.hid hs
        have hne : ((c.toNat : Int) == 95) = true := by rw [beq_iff_eq]; omega
        clear hs h1
        have h1 : (c.toNat : Int) ≤ 95 ∧ 95 ≤ (c.toNat : Int) := by rw [beq_iff_eq] at hne; omega
        obtain ⟨h1, h2⟩ := h1
        go_wp2_with fail
        go_round
        case rel => exact ⟨k + 1, by omega, by go_num, Lib.hid (signs_succ hsg.out HC.out (HS.out _))⟩
        case measure => simp [intOf]; omega
      case inr.inr.inr.inl =>
        have hs := sign_letter (.inr (.inl ⟨h1, h2⟩))
        have HS := Lib.hid hs
        clear hs
        go_wp2_with fail
        go_round
        case rel => exact ⟨k + 1, by omega, by go_num, Lib.hid (signs_succ hsg.out HC.out (HS.out _))⟩
        case measure => simp [intOf]; omega
      case inr.inr.inr.inr.inr.inr.inl =>
        have hs := sign_letter (.inl ⟨h1, h2⟩)
        have HS := Lib.hid hs
        clear hs
        go_wp2_with fail
        go_round
        case rel => exact ⟨k + 1, by omega, by go_num, Lib.hid (signs_succ hsg.out HC.out (HS.out _))⟩
        case measure => simp [intOf]; omega
      all_goals
        have hs : ∀ f, signB f c = false := sign_other (by omega) (by omega)
        have HS := Lib.hid hs
        clear hs
        have hne : ((c.toNat : Int) == 95) = false := by rw [beq_eq_false_iff_ne]; omega
        first | (have hx : (c.toNat : Int) < 48 := (by omega)) | ((have hx : 57 < (c.toNat : Int) := (by omega)); (have hy : 48 ≤ (c.toNat : Int) := (by omega)))
        try (have hx3 : 65 ≤ (c.toNat : Int) := (by omega))
        try (have hx4 : decide ((c.toNat : Int) ≤ 90) = false := decide_eq_false (by omega))
        try (have hx5 : decide ((c.toNat : Int) ≤ 122) = false := decide_eq_false (by omega))
        rcases h0 with h0 | h0
        · have hk0 : ((k : Int) == 0) = true := by rw [beq_iff_eq]; omega
          clear h0
          go_wp2_with fail
          go_ret
          exact ⟨by rw [HZ.out, nameB_bad HC.out (HS.out _)]; rfl, hbl⟩
        · have hk0 : ((k : Int) == 0) = false := by rw [beq_eq_false_iff_ne]; omega
          go_wp2_with fail
          go_ret
          exact ⟨by rw [HZ.out, nameB_bad HC.out (HS.out _)]; rfl, hbl⟩
    · obtain rfl : k = l.length := by omega
      have hz := HZ.out
      rw [nameB_signs hsg.out] at hz
      have HZ2 := Lib.hid hz
      clear hz
      have h0 : l = [] ∨ 0 < l.length := by cases l <;> simp
      rcases h0 with rfl | h0
      · go_wp2_with fail
        go_ret
        exact ⟨by rw [HZ2.out]; rfl, hbl⟩
      · have hne : (l != []) = true := by rw [bne_iff_ne]; intro h; rw [h] at h0; exact absurd h0 (by simp)
        have he : l.isEmpty = false := by cases l; exact absurd h0 (by simp); rfl
        by_cases h40 : l.length ≤ 40
        · go_wp2_with fail
          go_ret
          exact ⟨by rw [HZ2.out, he, decide_eq_true h40, decide_eq_true (by omega)]; rfl, hbl⟩
        · go_wp2_with fail
          go_ret
          exact ⟨by rw [HZ2.out, he, decide_eq_false h40, decide_eq_false (by omega)]; rfl, hbl⟩

end Go.Proofs.YtgabmfibfikdbaaGreatDoor
