/-
 Blocks that are known whole, beside buffers and frames (Fr). Plain lemmas over any program; no condition.
-/
import Derived.Test.YtgabmfibfikdbaaGreatDoorZLib4

namespace Go.Bar
open Go.RowKit

def Blk (w : World) (M : Nat) (T : TypeId) (cur : Array Value) : Prop := w.heap[M]? = some (.cells cur T (0, 0))
section
variable {w w' : World} {M : Nat} {T : TypeId} {cur : Array Value}
theorem Blk.new (w : World) (cur : Array Value) (T : TypeId) : Blk (w.alloc (.cells cur T)) w.heap.size T cur := heap_alloc_new w _
theorem Blk.lt (h : Blk w M T cur) : M < w.heap.size := (Array.getElem?_eq_some_iff.1 h).1
theorem Blk.cell (h : Blk w M T cur) {i : Nat} {u : Value} (hu : cur[i]? = some u) : w.cell? ⟨M, i, none⟩ = some u := (cell_of_block h i).trans hu
theorem Blk.free (h : Blk w M T cur) (i : Nat) : w.frozen? ⟨M, i, none⟩ = false := by
 unfold Blk at h
 simp [World.frozen?, h]
theorem Blk.set (h : Blk w M T cur) (i : Nat) (v : Value) : Blk (w.setCell ⟨M, i, none⟩ v) M T (cur.setIfInBounds i v) := by
 unfold Blk at h ⊢
 simp [World.setCell, Array.getElem?_modify, h]
theorem Blk.other (h : Blk w M T cur) {b : Nat} (hb : M ≠ b) (i : Nat) (v : Value) : Blk (w.setCell ⟨b, i, none⟩ v) M T cur := (Below.heap_setCell w ⟨b, i, none⟩ v M hb).trans h
theorem Blk.below (h : Blk w M T cur) (hb : Below w.heap.size w w') : Blk w' M T cur := (hb.block M h.lt).trans h
theorem Blk.belowB (h : Blk w M T cur) {B : Nat} (hb : Below B w w') (hB : M < B) : Blk w' M T cur := (hb.block M hB).trans h
theorem Blk.alloc (h : Blk w M T cur) (o : Obj) : Blk (w.alloc o) M T cur := h.below ((Below.refl _ _).alloc (Nat.le_refl _) o)
theorem Blk.drew (h : Blk w M T cur) : Blk w.drew M T cur := h.below (Below.refl _ _).drew
theorem Blk.drewN (h : Blk w M T cur) (n : Nat) : Blk (w.drewN n) M T cur := h.below (below_draws w n)
theorem Blk.fr (h : Blk w M T cur) {S : Nat -> Nat -> Prop} (hf : Fr S w w') (hS : ∀ i, ¬ S M i) : Blk w' M T cur := (hf.block h.lt hS).trans h
theorem Blk.ap (h : Blk w M T cur) {e : TypeId} {sz n : Nat} {v : Value} {xs : List Value} (hb : Buf w e sz v n xs) (ha : Ap w w' sz v) (hne : e ≠ T) : Blk w' M T cur := by
 rcases ha.block M h.lt with h1 | ⟨o, n', c, cur1, cur', e1, fr, rfl, hw, hw', hsz, hi⟩
 ·exact h1.trans h
 ·unfold Blk at h ⊢
  rw [hw'] 
  rw [h] at hw
  injection hw with hw
  injection hw with g1 g2 g3
  subst g1; subst g2; subst g3
  obtain ⟨hl, A, c', hv', hnc, hc, hv⟩ := hb
  injection hv' with a1 a2 a3
  subst a1; subst a2; subst a3
  rcases Nat.eq_zero_or_pos c with h0 | h0
  ·subst h0
   have : cur' = cur := Array.ext_getElem? (fun i => hi i (by rw [show n' = 0 by omega]; omega))
   rw [this]
  ·obtain ⟨b2, o2, cur2, fr2, h4, hb2, _⟩ := hv h0
   injection h4 with h4
   injection h4 with h4
   subst h4
   rw [h] at hb2
   injection hb2 with hb2
   injection hb2 with _ g2 _
   exact absurd g2.symm hne
end
theorem Buf.set_ne {w : World} {e : TypeId} {sz n : Nat} {v : Value} {xs : List Value} (h : Buf w e sz v n xs) {M : Nat} {T : TypeId} {cur : Array Value} (hb : Blk w M T cur) (hne : e ≠ T) (i : Nat) (u : Value) : Buf (w.setCell ⟨M, i, none⟩ u) e sz v n xs := by
 obtain ⟨hl, A, c, rfl, hnc, hc, hv⟩ := h
 refine ⟨hl, A, c, rfl, hnc, hc, fun h0 => ?_⟩
 obtain ⟨b, o, cur', fr, rfl, hbk, hs, hf, hx⟩ := hv h0
 have hbM : b ≠ M := by
  rintro rfl
  unfold Blk at hb
  rw [hbk] at hb
  injection hb with hb
  injection hb with _ hb _
  exact hne hb
 exact ⟨b, o, cur', fr, rfl, (Below.heap_setCell w ⟨M, i, none⟩ u b hbM).trans hbk, hs, hf, hx⟩

structure FBuf (w wr : World) (e : TypeId) (sz : Nat) (v : Value) (n : Nat) (xs : List Value) : Prop where
 buf : Buf wr e sz v n xs
 new : ∀ k, v.ownBlock = some k -> w.heap.size <= k
section
variable {w wr w' : World} {e e' : TypeId} {sz sz' n n' : Nat} {v v' : Value} {xs xs' : List Value}
theorem FBuf.nil (w wr : World) (e : TypeId) (sz : Nat) : FBuf w wr e sz (.slice none 0 0) 0 [] := ⟨Buf.nil _ _ _, by simp [Value.ownBlock]⟩
theorem FBuf.below (h : FBuf w wr e sz v n xs) (hb : Below wr.heap.size wr w') : FBuf w w' e sz v n xs := ⟨h.buf.below hb, h.new⟩
theorem FBuf.alloc (h : FBuf w wr e sz v n xs) (o : Obj) : FBuf w (wr.alloc o) e sz v n xs := ⟨h.buf.alloc o, h.new⟩
theorem FBuf.drew (h : FBuf w wr e sz v n xs) : FBuf w wr.drew e sz v n xs := ⟨h.buf.drew, h.new⟩
theorem FBuf.fr (h : FBuf w wr e sz v n xs) {S : Nat -> Nat -> Prop} (hf : Fr S wr w') (hS : ∀ k i, w.heap.size <= k -> ¬ S k i) : FBuf w w' e sz v n xs := ⟨hf.buf h.buf (fun k i hk => hS k i (h.new k hk)), h.new⟩
theorem FBuf.set_ne (h : FBuf w wr e sz v n xs) {M : Nat} {T : TypeId} {cur : Array Value} (hb : Blk wr M T cur) (hne : e ≠ T) (i : Nat) (u : Value) : FBuf w (wr.setCell ⟨M, i, none⟩ u) e sz v n xs := ⟨h.buf.set_ne hb hne i u, h.new⟩
theorem FBuf.set_ne2 {M : Nat} {T : TypeId} (h : FBuf w wr e sz v n xs /\ ∃ cur, Blk wr M T cur) (hne : e ≠ T) (i : Nat) (u : Value) : FBuf w (wr.setCell ⟨M, i, none⟩ u) e sz v n xs /\ ∃ cur, Blk (wr.setCell ⟨M, i, none⟩ u) M T cur := by
 obtain ⟨hf, cur, hb⟩ := h
 exact ⟨hf.set_ne hb hne i u, _, hb.set i u⟩
theorem FBuf.step (h : FBuf w wr e sz v n xs) (hw : w.heap.size <= wr.heap.size) (hb : Buf w' e sz v' n' xs') (hg : Grew wr v v') : FBuf w w' e sz v' n' xs' := ⟨hb, hg.new hw h.new⟩
theorem FBuf.keep (h : FBuf w wr e sz v n xs) (h' : Buf wr e' sz' v' n' xs') (ha : Ap wr w' sz' v') (hne : e ≠ e') : FBuf w w' e sz v n xs := ⟨h.buf.keep_ap h' ha hne, h.new⟩
theorem FBuf.slice (h : FBuf w wr e sz v n xs) : SlAt wr sz v n xs := SlAt.of_buf h.buf
theorem FBuf.older {w0 : World} (h : FBuf w wr e sz v n xs) (hle : w0.heap.size <= w.heap.size) : FBuf w0 wr e sz v n xs := ⟨h.buf, fun k hk => Nat.le_trans hle (h.new k hk)⟩
theorem FBuf.belowB (h : FBuf w wr e sz v n xs) (hw : w.heap.size <= wr.heap.size) (ha : Ap wr w' sz v) : Below w.heap.size wr w' := ha.below hw h.new
end
theorem Fr.then_belowB {S : Nat -> Nat -> Prop} {w w' w'' : World} (h : Fr S w w') (hb : Below w.heap.size w' w'') (hsz : w'.heap.size <= w''.heap.size) : Fr S w w'' :=
 ⟨hb.os.trans h.os, hb.tape.trans h.tape, hb.output.trans h.output, Nat.le_trans h.size hsz, fun k hk => by rw [hb.block k hk]; exact h.blk k hk⟩

theorem wpList_append_flit {P : Program} {ops : Array Oper} {rest : List Oper} {o : Oper} {a : Act} {Q : Exit -> Act -> World -> Prop} {w : World} (hgd : o.guard = none) (s x : Operand) (t : TypeId)
  (ho : o.op = .call { callee := .builtin .append, args := #[s, x], argTypes := #[t, t] })
  {e : TypeId} {z : Value} {sz bytes : Nat} (hT : ElemTy P t e z sz bytes)
  {v : Value} {m k : Nat} {ys news : List Value} (hv : a.eval s = v) (h : Buf w e sz v m ys) {H : Nat} (hx : a.eval x = .slice (some ⟨H, 0, none⟩) k k) (hH : w.heap.size = H)
  (hl : news.length = k * sz) (h1 : ∀ u ∈ news, u.oneCell' = true) (h63 : m + k <= maxLen) (hbytes : (m + k) * bytes <= 140737488355328)
  (K : ∀ v' w', Buf w' e sz v' (m + k) (ys ++ news) -> Ap (w.alloc (.cells news.toArray e)) w' sz v -> Grew (w.alloc (.cells news.toArray e)) v v' -> wpList P ops Q rest (a.put o.dst v') w') : wpList P ops Q (o :: rest) a (w.alloc (.cells news.toArray e)) :=
 wpList_append_el hgd s x t t ho hT hv (h.alloc _) (hx.trans (by rw [hH])) ((Buf.lit w e sz k news hl (by omega)).src hT.slice h1) h63 hbytes K
theorem step_append_buf {P : Program} {ops : Array Oper} {o : Oper} {a : Act} {w : World} {K : Act -> World -> Prop} {Q : Exit -> Act -> World -> Prop} {E : Prop} (hgd : o.guard = none) (s x : Operand) (t : TypeId)
  (ho : o.op = .call { callee := .builtin .append, args := #[s, x], argTypes := #[t, t] }) {e : TypeId} {z : Value} {sz bytes : Nat} (hT : ElemTy P t e z sz bytes)
  {v y : Value} {n k : Nat} {xs news : List Value} (hv : a.eval s = v) (h : Buf w e sz v n xs) (hx : a.eval x = y) (hs : Src P sz t y k news w)
  (h63 : n + k <= maxLen) (hbytes : (n + k) * bytes <= 140737488355328)
  (hK : ∀ v' w', Buf w' e sz v' (n + k) (xs ++ news) -> Ap w w' sz v -> Grew w v v' -> K (a.put o.dst v') w') : if Region.wanted o (yielded ops a.tmps) = true then Oper.wp P o a w K Q else E := by
 have hw : Region.wanted o (yielded ops a.tmps) = true := by simp [Region.wanted, hgd]
 rw [if_pos hw]
 obtain ⟨i, hi, hz, h1, h2⟩ := hT.info
 obtain ⟨v', w', hr, g2, g3, g4⟩ := run_append_buf (P := P) t t o.type i z bytes hT.slice hi hz h1 h2 hT.zs h y k news hs h63 hbytes
 unfold Oper.wp execOp
 simp only [ho, resolve, invoke, builtin, Sem.run_bind, Sem.run_pure, Result.andThen_ok, List.map_toArray, List.map_cons, List.map_nil, hv, hx, hr]
 exact hK _ _ g2 g3 g4

end Go.Bar
