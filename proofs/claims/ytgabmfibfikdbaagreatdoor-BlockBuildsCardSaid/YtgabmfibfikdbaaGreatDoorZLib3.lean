/-
 Frames: which cells may have turned (Fr); buffers and cells under them; a store into a buffer. Plain lemmas over any program; no condition.
-/
import Derived.Test.YtgabmfibfikdbaaGreatDoorZLib1

namespace Go.Bar
open Go.RowKit

structure Fr (S : Nat -> Nat -> Prop) (w w' : World) : Prop where
 os : w'.os = w.os
 tape : w'.tape = w.tape
 output : w'.output = w.output
 size : w.heap.size <= w'.heap.size
 blk : ∀ k, k < w.heap.size -> w'.heap[k]? = w.heap[k]? \/ ∃ cur cur' e fr, w.heap[k]? = some (.cells cur e fr) /\ w'.heap[k]? = some (.cells cur' e fr) /\ cur'.size = cur.size /\ ∀ i, ¬ S k i -> cur'[i]? = cur[i]?

section
variable {S S' : Nat -> Nat -> Prop} {w w' w'' : World}

theorem Fr.refl (S : Nat -> Nat -> Prop) (w : World) : Fr S w w := ⟨rfl, rfl, rfl, Nat.le_refl _, fun _ _ => .inl rfl⟩
theorem Fr.of_below (h : Below w.heap.size w w') : Fr S w w' := ⟨h.os, h.tape, h.output, h.size, fun k hk => .inl (h.block k hk)⟩
theorem Fr.mono (h : Fr S w w') (hs : ∀ k i, k < w.heap.size -> S k i -> S' k i) : Fr S' w w' :=
 ⟨h.os, h.tape, h.output, h.size, fun k hk => (h.blk k hk).imp id fun ⟨cur, cur', e, fr, h1, h2, h3, h4⟩ => ⟨cur, cur', e, fr, h1, h2, h3, fun i hi => h4 i fun hS => hi (hs k i hk hS)⟩⟩
theorem Fr.trans (h : Fr S w w') (h' : Fr S w' w'') : Fr S w w'' := by
 refine ⟨h'.os.trans h.os, h'.tape.trans h.tape, h'.output.trans h.output, Nat.le_trans h.size h'.size, fun k hk => ?_⟩
 rcases h'.blk k (Nat.lt_of_lt_of_le hk h.size) with g | ⟨c1, c2, e1, f1, g1, g2, g3, g4⟩
 ·rw [g]; exact h.blk k hk
 ·rcases h.blk k hk with k0 | ⟨c3, c4, e2, f2, k1, k2, k3, k4⟩
  ·rw [k0] at g1; exact .inr ⟨c1, c2, e1, f1, g1, g2, g3, g4⟩
  ·rw [k2] at g1
   injection g1 with g1
   injection g1 with a1 a2 a3
   subst a1; subst a2; subst a3
   exact .inr ⟨c3, c2, e2, f2, k1, g2, g3.trans k3, fun i hi => (g4 i hi).trans (k4 i hi)⟩
theorem Fr.trans' (h : Fr S w w') (h' : Fr S' w' w'') (hs : ∀ k i, k < w.heap.size -> S' k i -> S k i) : Fr S w w'' := by
 refine ⟨h'.os.trans h.os, h'.tape.trans h.tape, h'.output.trans h.output, Nat.le_trans h.size h'.size, fun k hk => ?_⟩
 rcases h'.blk k (Nat.lt_of_lt_of_le hk h.size) with g | ⟨c1, c2, e1, f1, g1, g2, g3, g4⟩
 ·rw [g]; exact h.blk k hk
 ·rcases h.blk k hk with k0 | ⟨c3, c4, e2, f2, k1, k2, k3, k4⟩
  ·rw [k0] at g1; exact .inr ⟨c1, c2, e1, f1, g1, g2, g3, fun i hi => g4 i fun hS => hi (hs k i hk hS)⟩
  ·rw [k2] at g1
   injection g1 with g1
   injection g1 with a1 a2 a3
   subst a1; subst a2; subst a3
   exact .inr ⟨c3, c2, e2, f2, k1, g2, g3.trans k3, fun i hi => (g4 i fun hS => hi (hs k i hk hS)).trans (k4 i hi)⟩
theorem Fr.then_below (h : Fr S w w') (hb : Below w'.heap.size w' w'') : Fr S w w'' := h.trans (Fr.of_below hb)
theorem Fr.alloc (h : Fr S w w') (o : Obj) : Fr S w (w'.alloc o) := h.then_below ((Below.refl _ _).alloc (Nat.le_refl _) o)
theorem Fr.drew (h : Fr S w w') : Fr S w w'.drew := h.then_below (Below.refl _ _).drew
theorem Fr.drewN (h : Fr S w w') (n : Nat) : Fr S w (w'.drewN n) := h.then_below (below_draws _ n)
theorem Fr.setCell (h : Fr S w w') {k i : Nat} (hS : k < w.heap.size -> S k i) (u : Value) : Fr S w (w'.setCell ⟨k, i, none⟩ u) := by
 refine h.trans' (S' := fun k' i' => k' = k /\ i' = i) ?_ (fun k' i' hk ⟨e1, e2⟩ => by subst e1; subst e2; exact hS hk)
 refine ⟨rfl, rfl, rfl, by simp [World.setCell], fun q hq => ?_⟩
 by_cases hqk : q = k
 ·subst hqk
  cases ho : w'.heap[q]? with
  | none => left; simp [World.setCell, Array.getElem?_modify, ho]
  | some o =>
   cases o with
   | cells c e fr =>
    right
    refine ⟨c, c.setIfInBounds i u, e, fr, rfl, by simp [World.setCell, Array.getElem?_modify, ho], by simp, fun j hj => ?_⟩
    rw [Array.getElem?_setIfInBounds_ne (fun e => hj ⟨rfl, e.symm⟩)]
   | _ => left; simp [World.setCell, Array.getElem?_modify, ho]
 ·left
  exact Below.heap_setCell w' ⟨k, i, none⟩ u q hqk
theorem Fr.of_ap {sz : Nat} {v : Value} (h : Ap w w' sz v) (hS : ∀ k i, v.ownBlock = some k -> S k i) : Fr S w w' :=
 ⟨h.os, h.tape, h.output, h.size, fun k hk => by
  rcases h.block k hk with h1 | ⟨o, n, c, cur, cur', e, fr, rfl, h2, h3, h4, h5⟩
  ·exact .inl h1
  ·exact .inr ⟨cur, cur', e, fr, h2, h3, h4, fun i hi => absurd (hS k i rfl) hi⟩⟩
theorem Fr.block (h : Fr S w w') {k : Nat} (hk : k < w.heap.size) (hS : ∀ i, ¬ S k i) : w'.heap[k]? = w.heap[k]? := by
 rcases h.blk k hk with h1 | ⟨c, c', e, fr, h1, h2, h3, h4⟩
 ·exact h1
 ·have : c' = c := by
   apply Array.ext_getElem?
   intro i
   exact h4 i (hS i)
  rw [h1, h2, this]
theorem Fr.below (h : Fr S w w') {B : Nat} (hB : B <= w.heap.size) (hS : ∀ k i, k < B -> ¬ S k i) : Below B w w' :=
 ⟨h.os, h.tape, h.output, h.size, fun k hk => h.block (Nat.lt_of_lt_of_le hk hB) (fun i => hS k i hk)⟩
theorem Fr.cell (h : Fr S w w') {k i : Nat} {v : Value} (hc : w.cell? ⟨k, i, none⟩ = some v) (hS : ¬ S k i) : w'.cell? ⟨k, i, none⟩ = some v := by
 have hk := World.block_lt_of_cell? _ _ hc
 rcases h.blk k hk with h1 | ⟨c, c', e, fr, h1, h2, h3, h4⟩
 ·exact (World.cell?_of_block (a := ⟨k, i, none⟩) h1).trans hc
 ·rw [cell_of_block h1] at hc
  rw [cell_of_block h2, h4 i hS, hc]
theorem Fr.frozen (h : Fr S w w') {k i : Nat} (hk : k < w.heap.size) : w'.frozen? ⟨k, i, none⟩ = w.frozen? ⟨k, i, none⟩ := by
 rcases h.blk k hk with h1 | ⟨c, c', e, fr, h1, h2, h3, h4⟩
 ·exact World.frozen?_of_block (w := w) (a := ⟨k, i, none⟩) h1
 ·simp only [World.frozen?, h1, h2]
theorem Fr.free (h : Fr S w w') {k i : Nat} {v : Value} (hc : w.cell? ⟨k, i, none⟩ = some v) (hf : w.frozen? ⟨k, i, none⟩ = false) : w'.frozen? ⟨k, i, none⟩ = false :=
 (h.frozen (World.block_lt_of_cell? _ _ hc)).trans hf
theorem Fr.buf (h : Fr S w w') {e : TypeId} {sz n : Nat} {v : Value} {xs : List Value} (hb : Buf w e sz v n xs) (hS : ∀ k i, v.ownBlock = some k -> ¬ S k i) : Buf w' e sz v n xs := by
 obtain ⟨hl, A, c, rfl, hnc, hc, hv⟩ := hb
 refine ⟨hl, A, c, rfl, hnc, hc, fun h0 => ?_⟩
 obtain ⟨b, o, cur, fr, rfl, hbk, hs, hf, hx⟩ := hv h0
 exact ⟨b, o, cur, fr, rfl, (h.block (Array.getElem?_eq_some_iff.1 hbk).1 (fun i => hS b i rfl)).trans hbk, hs, hf, hx⟩
end

theorem Buf.ne_block {w : World} {e t : TypeId} {sz n : Nat} {v : Value} {xs : List Value} (h : Buf w e sz v n xs) {b : Nat} {cur : Array Value} {fr : Nat × Nat} (hb : w.heap[b]? = some (.cells cur t fr)) (hne : e ≠ t) (hc : 0 < n) : v.ownBlock ≠ some b := by
 obtain ⟨hl, A, c, rfl, hnc, hcm, hv⟩ := h
 obtain ⟨b', o, cur', fr', rfl, hbk, _⟩ := hv (by omega)
 intro he
 simp [Value.ownBlock] at he
 subst he
 rw [hbk] at hb
 injection hb with hb
 injection hb with _ hb _
 exact hne hb

theorem Buf.store {w : World} {e : TypeId} {n : Nat} {b o c : Nat} {xs : List Value} (h : Buf w e 1 (.slice (some ⟨b, o, none⟩) n c) n xs) {j : Nat} (_hj : j < n) (u : Value) :
  Buf (w.setCell ⟨b, o + j, none⟩ u) e 1 (.slice (some ⟨b, o, none⟩) n c) n (xs.set j u) := by
 obtain ⟨hl, A, c', hv', hnc, hc, hv⟩ := h
 injection hv' with h1 h2 h3
 subst h1; subst h3
 refine ⟨by rw [List.length_set]; exact hl, _, c, rfl, hnc, hc, fun h0 => ?_⟩
 obtain ⟨b', o', cur, fr, h4, hbk, hs, hf, hx⟩ := hv h0
 injection h4 with h4
 injection h4 with h4 h5 _
 subst h4; subst h5
 refine ⟨b, o, cur.setIfInBounds (o + j) u, fr, rfl, by simp [World.setCell, Array.getElem?_modify, hbk], by simpa using hs, hf, fun i hi => ?_⟩
 by_cases hij : i = j
 ·subst hij
  have hlen : i < xs.length := by rw [hl]; exact hi
  rw [Array.getElem?_setIfInBounds_self_of_lt (by omega), List.getElem?_set_self hlen]
 ·rw [Array.getElem?_setIfInBounds_ne (by omega), hx i hi, List.getElem?_set_ne (fun e => hij e.symm)]
theorem Buf.at_ {w : World} {e : TypeId} {n : Nat} {v : Value} {xs : List Value} (h : Buf w e 1 v n xs) (hn : 0 < n) : ∃ b o c, v = .slice (some ⟨b, o, none⟩) n c /\ b < w.heap.size /\ n <= c /\ (∀ j, j < n -> w.cell? ⟨b, o + j, none⟩ = xs[j]?) /\ ∀ j, j < n -> w.frozen? ⟨b, o + j, none⟩ = false := by
 obtain ⟨hl, A, c, rfl, hnc, hc, hv⟩ := h
 obtain ⟨b, o, cur, fr, rfl, hbk, hs, hf, hx⟩ := hv (by omega)
 refine ⟨b, o, c, rfl, (Array.getElem?_eq_some_iff.1 hbk).1, hnc, fun j hj => (cell_of_block hbk _).trans (hx j (by omega)), fun j hj => ?_⟩
 have := hf (o + j) (by omega) (by omega)
 have e0 : w.frozen? ⟨b, o + j, none⟩ = (decide (fr.1 <= o + j) && decide (o + j < fr.2)) := by simp only [World.frozen?, hbk]
 rw [e0, Bool.eq_false_iff]
 intro hh
 simp only [Bool.and_eq_true, decide_eq_true_eq] at hh
 exact this hh

theorem App.cell_new {W0 W : World} {V : Value} {e : TypeId} {sz N : Nat} {xs : List Value} {w : World} {v : Value} {m : Nat} {ys : List Value} (h : App W V e sz N xs w v m ys) (h0 : Buf W0 e sz V N xs) {k i : Nat} (h1 : W0.heap.size <= k) (h2 : k < W.heap.size) : w.cell? ⟨k, i, none⟩ = W.cell? ⟨k, i, none⟩ := by
 obtain ⟨hl, A, c, rfl, hnc, hc, hv⟩ := h0
 rcases h.ap.block k h2 with g | ⟨o, n, c', cur, cur', e', fr, hV, g1, g2, g3, g4⟩
 ·exact World.cell?_of_block (a := ⟨k, i, none⟩) g
 ·injection hV with e1 e2 e3
  subst e1; subst e2; subst e3
  rcases Nat.eq_zero_or_pos c with h0 | h0
  ·subst h0
   rw [cell_of_block g2, cell_of_block g1]
   exact g4 i (by rw [show N = 0 by omega]; omega)
  ·obtain ⟨b, o', cur0, fr', e4, hb, _⟩ := hv h0
   injection e4 with e4
   injection e4 with e4
   subst e4
   have := (Array.getElem?_eq_some_iff.1 hb).1
   omega
theorem BApp.cell_new {W0 W : World} {V : Value} {e : TypeId} {xs : List UInt8} {w : World} {v : Value} {ys : List UInt8} (h : BApp W V e xs w v ys) (h0 : BBuf W0 e V xs) {k i : Nat} (h1 : W0.heap.size <= k) (h2 : k < W.heap.size) : w.cell? ⟨k, i, none⟩ = W.cell? ⟨k, i, none⟩ := App.cell_new h h0 h1 h2
theorem BApp.after {W0 W : World} {V : Value} {e : TypeId} {xs : List UInt8} {w : World} {v : Value} {ys : List UInt8} (hb : Below W0.heap.size W0 W) (h : BApp W V e xs w v ys) (h0 : BBuf W0 e V xs) : BApp W0 V e xs w v ys := App.after hb h h0

structure ElemTy (P : Program) (t e : TypeId) (z : Value) (sz bytes : Nat) : Prop where
 slice : P.underlying t = some (.slice e)
 info : ∃ i, P.info? e = some i /\ i.zero = some z /\ i.size = sz /\ i.bytes = bytes
 zs : z.cells.size = sz

theorem wpList_append_el {P : Program} {ops : Array Oper} {rest : List Oper} {o : Oper} {a : Act} {Q : Exit -> Act -> World -> Prop} {w : World} (hgd : o.guard = none) (s x : Operand) (t tx : TypeId)
  (ho : o.op = .call { callee := .builtin .append, args := #[s, x], argTypes := #[t, tx] })
  {e : TypeId} {z : Value} {sz bytes : Nat} (hT : ElemTy P t e z sz bytes)
  {v : Value} {n : Nat} {xs : List Value} (hv : a.eval s = v) (h : Buf w e sz v n xs) {y : Value} {m : Nat} {news : List Value} (hx : a.eval x = y) (hs : Src P sz tx y m news w) (h63 : n + m <= maxLen) (hbytes : (n + m) * bytes <= 140737488355328)
  (K : ∀ v' w', Buf w' e sz v' (n + m) (xs ++ news) -> Ap w w' sz v -> Grew w v v' -> wpList P ops Q rest (a.put o.dst v') w') : wpList P ops Q (o :: rest) a w := by
 obtain ⟨i, hi, hz, h1, h2⟩ := hT.info
 exact wpList_append_buf hgd s x t tx ho i z bytes hT.slice hi hz h1 h2 hT.zs hv h hx hs h63 hbytes K

theorem Buf.src {P : Program} {w : World} {e : TypeId} {sz n : Nat} {v : Value} {xs : List Value} (h : Buf w e sz v n xs) {t e' : TypeId} (ht : P.underlying t = some (.slice e')) (h1 : ∀ u ∈ xs, u.oneCell' = true) : Src P sz t v n xs w := by
 obtain ⟨hl, A, c, rfl, hnc, hcm, hv⟩ := h
 rcases Nat.eq_zero_or_pos n with h0 | h0
 ·subst h0
  obtain rfl : xs = [] := List.eq_nil_of_length_eq_zero (by simpa using hl)
  cases A with
  | none => exact Src.ofNil w ht c
  | some a => exact Src.ofSlice w ht a 0 c [] (by simp) (by intro j u hu; simp at hu) h1
 ·obtain ⟨b, o, cur, fr, rfl, hbk, _, _, hx⟩ := hv (by omega)
  refine Src.ofSlice w ht ⟨b, o, none⟩ n c xs hl (fun j u hu => ?_) h1
  have hj : j < n * sz := by rw [<- hl]; exact (List.getElem?_eq_some_iff.1 hu).1
  rw [addr_add, cell_of_block hbk, hx j hj, hu]
theorem Buf.lit (w : World) (e : TypeId) (sz n : Nat) (xs : List Value) (hl : xs.length = n * sz) (hn : n <= maxLen) : Buf (w.alloc (.cells xs.toArray e)) e sz (.slice (some ⟨w.heap.size, 0, none⟩) n n) n xs :=
 ⟨hl, _, n, rfl, Nat.le_refl _, hn, fun _ => ⟨w.heap.size, 0, _, (0, 0), rfl, heap_alloc_new w _, by simp [hl], fun i _ _ h => absurd h.2 (by simp), fun j _ => by rw [Nat.zero_add, List.getElem?_toArray]⟩⟩
theorem wpList_append_lit {P : Program} {ops : Array Oper} {rest : List Oper} {o : Oper} {a : Act} {Q : Exit -> Act -> World -> Prop} {w : World} (hgd : o.guard = none) (s x : Operand) (t : TypeId)
  (ho : o.op = .call { callee := .builtin .append, args := #[s, x], argTypes := #[t, t] })
  {e : TypeId} {z : Value} {sz bytes : Nat} (hT : ElemTy P t e z sz bytes)
  {W : World} {V v : Value} {N m k : Nat} {xs ys news : List Value} (hv : a.eval s = v) (h : App W V e sz N xs w v m ys) {H : Nat} (hx : a.eval x = .slice (some ⟨H, 0, none⟩) k k) (hH : w.heap.size = H)
  (hl : news.length = k * sz) (h1 : ∀ u ∈ news, u.oneCell' = true) (h63 : N + m + k <= maxLen) (hbytes : (N + m + k) * bytes <= 140737488355328)
  (K : ∀ v' w', App W V e sz N xs w' v' (m + k) (ys ++ news) -> wpList P ops Q rest (a.put o.dst v') w') : wpList P ops Q (o :: rest) a (w.alloc (.cells news.toArray e)) :=
 wpList_append_el hgd s x t t ho hT hv (h.alloc _).buf (hx.trans (by rw [hH])) ((Buf.lit w e sz k news hl (by omega)).src hT.slice h1) h63 hbytes fun v' w' hb ha hg => K v' w' ((h.alloc _).step hb ha hg)
theorem Grew.new {w : World} {v v' : Value} (h : Grew w v v') {B : Nat} (hB : B <= w.heap.size) (hv : ∀ k, v.ownBlock = some k -> B <= k) : ∀ k, v'.ownBlock = some k -> B <= k := by
 intro k hk
 rcases h with ⟨A, n, n', c, rfl, rfl, _⟩ | ⟨g, n', c', rfl, hg⟩
 ·exact hv k (by cases A <;> simp_all [Value.ownBlock])
 ·simp [Value.ownBlock] at hk
  omega

theorem App.lit0 (w : World) (e : TypeId) (sz : Nat) : App (w.alloc (.cells #[] e)) (.slice (some ⟨w.heap.size, 0, none⟩) 0 0) e sz 0 [] (w.alloc (.cells #[] e)) (.slice (some ⟨w.heap.size, 0, none⟩) 0 0) 0 [] :=
 App.start' (Buf.lit w e sz 0 [] (by simp) (Nat.zero_le _))

theorem pqA {α : Type} (l : List α) (i : Nat) (x : α) : l.toArray.setIfInBounds i x = (l.set i x).toArray := List.setIfInBounds_toArray ..
theorem pqS {α : Type} (a : α) (l : List α) (n : Nat) (x : α) : (a :: l).set (n + 1) x = a :: l.set n x := rfl
theorem pqZ {α : Type} (a : α) (l : List α) (x : α) : (a :: l).set 0 x = x :: l := rfl

theorem rB {w : World} : Below w.heap.size w w := Below.refl _ w

end Go.Bar
