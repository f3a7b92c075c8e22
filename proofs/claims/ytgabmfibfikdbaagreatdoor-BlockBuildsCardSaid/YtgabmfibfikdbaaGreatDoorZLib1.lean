/-
 Buffers: a slice that may be appended to (Buf), what an append leaves (Ap, Grew), a chain of appends (App). Plain lemmas over any program; no condition.
-/
import Derived.Test.YtgabmfibfikdbaaGreatDoorProg
import Derived.WalkKit
import Derived.WalkSpells
import Derived.WalkLawsBesides
import Derived.Deep.AppendSrc
import Derived.Deep.Draws
import Derived.Lib.Hide

namespace Go.Bar
open Go.RowKit

def Quiet (w : World) (v : Value) (e : Ending) (w' : World) : Prop := e = .returned v /\ ∃ n, w' = w.drewN n
theorem Quiet.same {w : World} {v : Value} : Quiet w v (.returned v) w := ⟨rfl, 0, rfl⟩

def RetBelow (w : World) (v : Value) (e : Ending) (w' : World) : Prop := e = .returned v /\ Below w.heap.size w w'
theorem below_drewN {B : Nat} {a w : World} (h : Below B a w) (n : Nat) : Below B a (w.drewN n) := ⟨h.os, h.tape, h.output, h.size, h.block⟩
theorem below_draws (w : World) (n : Nat) : Below w.heap.size w (w.drewN n) := below_drewN (Below.refl _ _) n
theorem below_trans {a b c : World} (h : Below a.heap.size a b) (k : Below b.heap.size b c) : Below a.heap.size a c := h.trans (k.mono h.size)

theorem _root_.Go.RowKit.Below.drew' {a w : World} (h : Below a.heap.size a w) : Below a.heap.size a w.drew := h.drew
theorem addr_add (b o j : Nat) : (⟨b, o, none⟩ : Addr).add j = ⟨b, o + j, none⟩ := by unfold Addr.add; split <;> simp_all

theorem cell_of_block {w : World} {b : Nat} {cur : Array Value} {e : TypeId} {fr : Nat × Nat} (h : w.heap[b]? = some (.cells cur e fr)) (i : Nat) : w.cell? ⟨b, i, none⟩ = cur[i]? := by simp [World.cell?, h]

structure Buf (w : World) (e : TypeId) (sz : Nat) (v : Value) (n : Nat) (xs : List Value) : Prop where
 len : xs.length = n * sz
 val : ∃ A c, v = .slice A n c /\ n <= c /\ c <= maxLen /\ (0 < c -> ∃ b o cur fr, A = some ⟨b, o, none⟩ /\ w.heap[b]? = some (.cells cur e fr) /\ o + c * sz <= cur.size /\
  (∀ i, o <= i -> i < o + c * sz -> ¬ (fr.1 <= i /\ i < fr.2)) /\ ∀ j, j < n * sz -> cur[o + j]? = xs[j]?)

structure Ap (w w' : World) (sz : Nat) (v : Value) : Prop where
 os : w'.os = w.os
 tape : w'.tape = w.tape
 output : w'.output = w.output
 size : w.heap.size <= w'.heap.size
 block : ∀ k, k < w.heap.size -> w'.heap[k]? = w.heap[k]? \/ ∃ o n c cur cur' e fr, v = .slice (some ⟨k, o, none⟩) n c /\ w.heap[k]? = some (.cells cur e fr) /\ w'.heap[k]? = some (.cells cur' e fr) /\ cur'.size = cur.size /\
  ∀ i, (i < o + n * sz \/ o + c * sz <= i) -> cur'[i]? = cur[i]?

def Grew (w : World) (v v' : Value) : Prop :=
 (∃ A n n' c, v = .slice A n c /\ v' = .slice A n' c /\ n <= n') \/ (∃ g n' c', v' = .slice (some ⟨g, 0, none⟩) n' c' /\ w.heap.size <= g)

theorem Buf.nil (w : World) (e : TypeId) (sz : Nat) : Buf w e sz (.slice none 0 0) 0 [] := ⟨by simp, none, 0, rfl, Nat.le_refl _, Nat.zero_le _, fun h => absurd h (Nat.lt_irrefl _)⟩

section
variable {w w' w'' : World} {e : TypeId} {sz n : Nat} {v v' : Value} {xs : List Value}

theorem Ap.refl (w : World) (sz : Nat) (v : Value) : Ap w w sz v := ⟨rfl, rfl, rfl, Nat.le_refl _, fun _ _ => .inl rfl⟩
theorem Ap.of_below (h : Below w.heap.size w w') (sz : Nat) (v : Value) : Ap w w' sz v := ⟨h.os, h.tape, h.output, h.size, fun k hk => .inl (h.block k hk)⟩
theorem Ap.then_below (h : Ap w w' sz v) (hb : Below w'.heap.size w' w'') : Ap w w'' sz v :=
 ⟨hb.os.trans h.os, hb.tape.trans h.tape, hb.output.trans h.output, Nat.le_trans h.size hb.size, fun k hk => by
  rw [hb.block k (Nat.lt_of_lt_of_le hk h.size)]; exact h.block k hk⟩
theorem Ap.after_below (hb : Below w.heap.size w w') (h : Ap w' w'' sz v) : Ap w w'' sz v :=
 ⟨h.os.trans hb.os, h.tape.trans hb.tape, h.output.trans hb.output, Nat.le_trans hb.size h.size, fun k hk => by
  have := h.block k (Nat.lt_of_lt_of_le hk hb.size)
  rw [hb.block k hk] at this
  exact this⟩
theorem Ap.grownBy (h : Ap w w' sz v) : w.grownBy w' v.ownBlock :=
 ⟨h.os, h.tape, h.output, h.size, fun k hk hne => by
  rcases h.block k hk with h1 | ⟨o, n, c, cur, cur', e, fr, rfl, _⟩
  ·exact h1
  ·exact absurd rfl hne⟩
theorem Ap.below_nil (h : Ap w w' sz (.slice none n 0)) : Below w.heap.size w w' :=
 ⟨h.os, h.tape, h.output, h.size, fun k hk => by
  rcases h.block k hk with h1 | ⟨o, n, c, cur, cur', e, fr, h2, _⟩
  ·exact h1
  ·cases h2⟩
theorem Ap.below {B : Nat} (h : Ap w w' sz v) (hB : B <= w.heap.size) (hv : ∀ k, v.ownBlock = some k -> B <= k) : Below B w w' :=
 (Below.refl B w).grown h.grownBy hB hv

theorem Buf.keep (h : Buf w e sz v n xs) (hk : ∀ k, v.ownBlock = some k -> w'.heap[k]? = w.heap[k]?) : Buf w' e sz v n xs := by
 obtain ⟨hl, A, c, rfl, hnc, hc, hv⟩ := h
 refine ⟨hl, A, c, rfl, hnc, hc, fun h0 => ?_⟩
 obtain ⟨b, o, cur, fr, rfl, hb, hs, hf, hx⟩ := hv h0
 exact ⟨b, o, cur, fr, rfl, (hk b rfl).trans hb, hs, hf, hx⟩
theorem Buf.lt (h : Buf w e sz v n xs) (hn : 0 < n) : ∀ k, v.ownBlock = some k -> k < w.heap.size := by
 obtain ⟨hl, A, c, rfl, hnc, hc, hv⟩ := h
 obtain ⟨b, o, cur, fr, rfl, hb, hs, hf, hx⟩ := hv (by omega)
 intro k hk
 simp [Value.ownBlock] at hk
 subst hk
 exact (Array.getElem?_eq_some_iff.1 hb).1
theorem Buf.below (h : Buf w e sz v n xs) (hb : Below w.heap.size w w') : Buf w' e sz v n xs := by
 obtain ⟨hl, A, c, rfl, hnc, hc, hv⟩ := h
 refine ⟨hl, A, c, rfl, hnc, hc, fun h0 => ?_⟩
 obtain ⟨b, o, cur, fr, rfl, hbk, hs, hf, hx⟩ := hv h0
 exact ⟨b, o, cur, fr, rfl, (hb.block b (Array.getElem?_eq_some_iff.1 hbk).1).trans hbk, hs, hf, hx⟩
theorem Buf.alloc (h : Buf w e sz v n xs) (o : Obj) : Buf (w.alloc o) e sz v n xs := h.below ((Below.refl _ _).alloc (Nat.le_refl _) o)
theorem Buf.drew (h : Buf w e sz v n xs) : Buf w.drew e sz v n xs := h.below (Below.refl _ _).drew
theorem Buf.shape (h : Buf w e sz v n xs) : ∃ A c, v = .slice A n c /\ n <= c := by
 obtain ⟨hl, A, c, rfl, hnc, _⟩ := h
 exact ⟨A, c, rfl, hnc⟩
theorem Buf.cell {A : Option Addr} {c : Nat} (h : Buf w e sz (.slice A n c) n xs) (hn : 0 < n) : ∃ b o, A = some ⟨b, o, none⟩ /\ b < w.heap.size /\ ∀ j, j < n * sz -> w.cell? ⟨b, o + j, none⟩ = xs[j]? := by
 obtain ⟨hl, A', c', hv', hnc, hc, hv⟩ := h
 injection hv' with h1 h2 h3
 subst h1; subst h3
 obtain ⟨b, o, cur, fr, rfl, hbk, hs, hf, hx⟩ := hv (by omega)
 exact ⟨b, o, rfl, (Array.getElem?_eq_some_iff.1 hbk).1, fun j hj => (cell_of_block hbk _).trans (hx j hj)⟩
end

theorem setCells_block : ∀ (vs : List Value) (w : World) (b off : Nat) (cur : Array Value) (e : TypeId) (fr : Nat × Nat), w.heap[b]? = some (.cells cur e fr) ->
  ∃ cur', (w.setCells b off vs).heap[b]? = some (.cells cur' e fr) /\ cur'.size = cur.size /\ (∀ i, (i < off \/ off + vs.length <= i) -> cur'[i]? = cur[i]?) /\ (∀ j, j < vs.length -> off + j < cur.size -> cur'[off + j]? = vs[j]?)
 | [], w, b, off, cur, e, fr, h => ⟨cur, h, rfl, fun _ _ => rfl, fun j hj => absurd hj (by simp)⟩
 | v :: vs, w, b, off, cur, e, fr, h => by
  have h1 : (w.setCell ⟨b, off, none⟩ v).heap[b]? = some (.cells (cur.setIfInBounds off v) e fr) := by
   simp [World.setCell, Array.getElem?_modify, h]
  obtain ⟨cur', h2, h3, h4, h5⟩ := setCells_block vs _ b (off + 1) _ e fr h1
  refine ⟨cur', h2, by simpa using h3, fun i hi => ?_, fun j hj hlt => ?_⟩
  ·rw [h4 i (by simp only [List.length_cons] at hi; omega)]
   simp only [List.length_cons] at hi
   rw [Array.getElem?_setIfInBounds_ne (by omega)]
  ·match j with
   | 0 =>
    rw [h4 _ (.inl (by omega))]
    simp only [Nat.add_zero, List.getElem?_cons_zero]
    rw [Array.getElem?_setIfInBounds_self_of_lt (by omega)]
   | j + 1 =>
    have := h5 j (by simpa using hj) (by simp; omega)
    rw [show off + (j + 1) = off + 1 + j by omega]
    simpa using this
theorem setCells_other : ∀ (vs : List Value) (w : World) (b off : Nat) (k : Nat), k ≠ b -> (w.setCells b off vs).heap[k]? = w.heap[k]?
 | [], _, _, _, _, _ => rfl
 | v :: vs, w, b, off, k, h => (setCells_other vs _ b (off + 1) k h).trans (Below.heap_setCell w ⟨b, off, none⟩ v k h)
theorem setCells_rest : ∀ (vs : List Value) (w : World) (b off : Nat), (w.setCells b off vs).os = w.os /\ (w.setCells b off vs).tape = w.tape /\ (w.setCells b off vs).output = w.output /\ (w.setCells b off vs).heap.size = w.heap.size
 | [], _, _, _ => ⟨rfl, rfl, rfl, rfl⟩
 | v :: vs, w, b, off => by
  obtain ⟨h1, h2, h3, h4⟩ := setCells_rest vs (w.setCell ⟨b, off, none⟩ v) b (off + 1)
  exact ⟨h1, h2, h3, h4.trans (by simp [World.setCell])⟩

section
variable {P : Program} {w : World} {e : TypeId} {sz n : Nat} {v : Value} {xs : List Value}

theorem append_nothing (t tx ty : TypeId) (i : TypeInfo) (ht : P.underlying t = some (.slice e)) (hi : P.info? e = some i) (base : Option Addr) (sLen sCap : Nat) (hle : sLen <= sCap) (x : Value) (hs : Src P i.size tx x 0 [] w) :
  (Builtin.append_ #[t, tx] ty #[.slice base sLen sCap, x]).run P w = .ok (.slice base sLen sCap) w := by
 rcases hs.kind with ⟨e', hk⟩ | hk <;> cases base <;> simp [Builtin.append_, run_underlying ht, run_underlying hk, sizeOf, typeInfo, hi, hs.len, hle, hs.cells, storeCells]

theorem run_append_buf (t tx ty : TypeId) (i : TypeInfo) (z : Value) (bytes : Nat) (ht : P.underlying t = some (.slice e)) (hi : P.info? e = some i) (hz : i.zero = some z) (hsize : i.size = sz) (hby : i.bytes = bytes) (hzs : z.cells.size = sz)
  (h : Buf w e sz v n xs) (x : Value) (m : Nat) (news : List Value) (hs : Src P sz tx x m news w) (h63 : n + m <= maxLen) (hbytes : (n + m) * bytes <= 140737488355328) :
  ∃ v' w', (Builtin.append_ #[t, tx] ty #[v, x]).run P w = .ok v' w' /\ Buf w' e sz v' (n + m) (xs ++ news) /\ Ap w w' sz v /\ Grew w v v' := by
 subst hsize; subst hby
 obtain ⟨hl, A, c, rfl, hnc, hcm, hv⟩ := h
 have hnl := hs.newsLen
 have hlen' : (xs ++ news).length = (n + m) * i.size := by rw [List.length_append, hl, hnl, Nat.add_mul]
 have hsmall : n + m <= 9223372036854775807 := by simp only [maxLen] at h63; omega
 by_cases hfit : n + m <= c
 ·rcases Nat.eq_zero_or_pos c with h0 | hc0
  ·subst h0
   obtain rfl : n = 0 := by omega
   obtain rfl : m = 0 := by omega
   obtain rfl : news = [] := List.eq_nil_of_length_eq_zero (by simpa using hnl)
   refine ⟨_, w, append_nothing t tx ty i ht hi A 0 0 (Nat.le_refl _) x hs, ⟨hlen', A, 0, rfl, by omega, hcm, fun h => absurd h (by omega)⟩, Ap.refl _ _ _, .inl ⟨A, 0, 0, 0, rfl, rfl, Nat.le_refl _⟩⟩
  ·obtain ⟨b, o, cur, fr, rfl, hb, hsz, hf, hx⟩ := hv hc0
   have hlt : b < w.heap.size := (Array.getElem?_eq_some_iff.1 hb).1
   have hmul : (n + m) * i.size <= c * i.size := Nat.mul_le_mul_right _ hfit
   rw [Nat.add_mul] at hmul
   have hr := run_append_room_src (P := P) w t tx ty e i ht hi b o n c x m news hs hfit
    (fun j hj => by rw [cell_of_block hb, Array.getElem?_eq_getElem (by omega)]; rfl)
    (fun j hj => by
     have := hf (o + n * i.size + j) (by omega) (by omega)
     have e0 : w.frozen? ⟨b, o + n * i.size + j, none⟩ = (decide (fr.1 <= o + n * i.size + j) && decide (o + n * i.size + j < fr.2)) := by simp only [World.frozen?, hb]
     rw [e0, Bool.eq_false_iff]
     intro hh
     simp only [Bool.and_eq_true, decide_eq_true_eq] at hh
     exact this hh)
   obtain ⟨cur', g1, g2, g3, g4⟩ := setCells_block news w b (o + n * i.size) cur e fr hb
   obtain ⟨r1, r2, r3, r4⟩ := setCells_rest news w b (o + n * i.size)
   refine ⟨_, _, hr, ⟨hlen', some ⟨b, o, none⟩, c, rfl, hfit, hcm, fun _ => ⟨b, o, cur', fr, rfl, g1, by rw [g2]; exact hsz, hf, fun j hj => ?_⟩⟩,
    ⟨r1, r2, r3, by rw [r4]; exact Nat.le_refl _, fun k hk => ?_⟩, .inl ⟨some ⟨b, o, none⟩, n, n + m, c, rfl, rfl, by omega⟩⟩
   ·rw [Nat.add_mul] at hj
    by_cases hj' : j < n * i.size
    ·rw [g3 _ (.inl (by omega)), hx j hj', List.getElem?_append_left (by omega)]
    ·have := g4 (j - n * i.size) (by omega) (by omega)
     rw [show o + n * i.size + (j - n * i.size) = o + j by omega] at this
     rw [this, List.getElem?_append_right (by omega), hl]
   ·by_cases hkb : k = b
    ·subst hkb
     exact .inr ⟨o, n, c, cur, cur', e, fr, rfl, hb, g1, g2, fun i' hi' => g3 i' (by omega)⟩
    ·exact .inl (setCells_other news w b _ k hkb)
 ·have hold : (Builtin.firstCells i.size n (.slice A n c)).run P w.drew = .ok xs.toArray w.drew := by
   rcases Nat.eq_zero_or_pos c with h0 | hc0
   ·subst h0
    obtain rfl : n = 0 := by omega
    obtain rfl : xs = [] := List.eq_nil_of_length_eq_zero (by simpa using hl)
    cases A with
    | none => exact run_firstCells_none w.drew i.size 0 0 0
    | some a' => exact run_firstCells_some w.drew i.size 0 a' 0 0 [] (by simp) (by intro _ _ h'; simp at h')
   ·obtain ⟨b, o, cur, fr, rfl, hb, hsz, hf, hx⟩ := hv hc0
    refine run_firstCells_some w.drew i.size n ⟨b, o, none⟩ n c xs hl (fun j u hu => ?_)
    have hj : j < n * i.size := by rw [<- hl]; exact (List.getElem?_eq_some_iff.1 hu).1
    rw [addr_add]
    exact ((cell_of_block (w := w) hb _).trans (hx j hj)).trans hu
  have hrun := run_append_grow_src (P := P) w t tx ty e i z ht hi hz A n c xs hold x m news hs (by omega) (by omega) (growslice_fits (by omega) hbytes)
  have hge := grownCap_ge w (n + m) c e
  have hcm' := grownCap_le_maxLen w (n + m) c e h63
  have hblk : ∀ k, k < w.heap.size -> (w.drew.alloc (.cells ((xs ++ news).toArray ++ Builtin.zeroCells z.cells (grownCap w (n + m) c e - (n + m))) e)).heap[k]? = w.heap[k]? := fun k hk => Below.heap_alloc w.drew _ k hk
  refine ⟨_, _, hrun, ⟨hlen', some ⟨w.heap.size, 0, none⟩, _, rfl, hge, hcm', fun _ => ⟨w.heap.size, 0, _, (0, 0), rfl, heap_alloc_new w.drew _, ?_, fun i' _ _ h' => absurd h'.2 (by simp), fun j hj => ?_⟩⟩, ⟨rfl, rfl, rfl, by simp, fun k hk => .inl (hblk k hk)⟩, .inr ⟨_, _, _, rfl, Nat.le_refl _⟩⟩
  ·simp only [Array.size_append, List.size_toArray, size_zeroCells, hzs, hlen', <- Nat.add_mul]
   rw [show n + m + (grownCap w (n + m) c e - (n + m)) = grownCap w (n + m) c e by omega]
   omega
  ·rw [Nat.zero_add, Array.getElem?_append_left (by rw [List.size_toArray, hlen']; exact hj), List.getElem?_toArray]
end

structure App (W : World) (V : Value) (e : TypeId) (sz N : Nat) (xs : List Value) (w : World) (v : Value) (m : Nat) (ys : List Value) : Prop where
 start : Buf W e sz V N xs
 buf : Buf w e sz v (N + m) (xs ++ ys)
 ap : Ap W w sz V
 grew : Grew W V v

section
variable {W : World} {V : Value} {e : TypeId} {sz N : Nat} {xs : List Value} {w w' : World} {v v' : Value} {m k : Nat} {ys zs : List Value}
theorem App.start' (h : Buf W e sz V N xs) : App W V e sz N xs W V 0 [] := by
 obtain ⟨A, c, rfl, hc⟩ := h.shape
 exact ⟨h, by simpa using h, Ap.refl _ _ _, .inl ⟨A, N, N, c, rfl, rfl, Nat.le_refl _⟩⟩
theorem App.below (h : App W V e sz N xs w v m ys) (hb : Below w.heap.size w w') : App W V e sz N xs w' v m ys := ⟨h.start, h.buf.below hb, h.ap.then_below hb, h.grew⟩
theorem App.alloc (h : App W V e sz N xs w v m ys) (o : Obj) : App W V e sz N xs (w.alloc o) v m ys := h.below ((Below.refl _ _).alloc (Nat.le_refl _) o)
theorem App.drew (h : App W V e sz N xs w v m ys) : App W V e sz N xs w.drew v m ys := h.below (Below.refl _ _).drew
theorem App.after (hb : Below W.heap.size W w) (h : App w V e sz N xs w' v m ys) (hs : Buf W e sz V N xs) : App W V e sz N xs w' v m ys := by
 refine ⟨hs, h.buf, Ap.after_below hb h.ap, ?_⟩
 rcases h.grew with h1 | ⟨g, n', c', h1, h2⟩
 ·exact .inl h1
 ·exact .inr ⟨g, n', c', h1, Nat.le_trans hb.size h2⟩

theorem App.step (h : App W V e sz N xs w v m ys) (hb : Buf w' e sz v' (N + m + k) (xs ++ ys ++ zs)) (ha : Ap w w' sz v) (hg : Grew w v v') : App W V e sz N xs w' v' (m + k) (ys ++ zs) := by
 refine ⟨h.start, by rw [<- Nat.add_assoc, <- List.append_assoc]; exact hb, ⟨ha.os.trans h.ap.os, ha.tape.trans h.ap.tape, ha.output.trans h.ap.output, Nat.le_trans h.ap.size ha.size, fun q hq => ?_⟩, ?_⟩
 ·have hq' := Nat.lt_of_lt_of_le hq h.ap.size
  rcases ha.block q hq' with h1 | ⟨o, n, c, cur, cur', e', fr, rfl, h2, h3, h4, h5⟩
  ·rw [h1]; exact h.ap.block q hq
  ·rcases h.grew with ⟨A, n0, n1, c1, rfl, hv, hle⟩ | ⟨g, n', c', hv, hge⟩
   ·injection hv with e1 e2 e3
    subst e1; subst e2; subst e3
    rcases h.ap.block q hq with g1 | ⟨o', n', c', cur0, cur1, e0, fr0, hV, g2, g3, g4, g5⟩
    ·rw [g1] at h2
     exact .inr ⟨o, n0, c, cur, cur', e', fr, rfl, h2, h3, h4, fun i hi => h5 i (by have := Nat.mul_le_mul_right sz hle; omega)⟩
    ·injection hV with e1 e2 e3
     injection e1 with e1
     injection e1 with _ e1 _
     subst e1; subst e2; subst e3
     rw [g3] at h2
     injection h2 with h2
     injection h2 with a1 a2 a3
     subst a1; subst a2; subst a3
     exact .inr ⟨o, n0, c, cur0, cur', e0, fr0, rfl, g2, h3, h4.trans g4, fun i hi => (h5 i (by have := Nat.mul_le_mul_right sz hle; omega)).trans (g5 i hi)⟩
   ·injection hv with e1
    injection e1 with e1
    injection e1 with e1
    omega
 ·rcases hg with ⟨A, n, n', c, rfl, rfl, hle⟩ | ⟨g, n', c', rfl, hge⟩
  ·rcases h.grew with ⟨A', n0, n1, c1, rfl, hv, hle'⟩ | ⟨g, n1, c1, hv, hge⟩
   ·injection hv with e1 e2 e3
    subst e1; subst e2; subst e3
    exact .inl ⟨_, _, _, _, rfl, rfl, by omega⟩
   ·injection hv with e1 e2 e3
    subst e1
    exact .inr ⟨g, _, _, rfl, hge⟩
  ·exact .inr ⟨g, _, _, rfl, Nat.le_trans h.ap.size hge⟩
theorem App.trans (h : App W V e sz N xs w v m ys) (h' : App w v e sz (N + m) (xs ++ ys) w' v' k zs) : App W V e sz N xs w' v' (m + k) (ys ++ zs) := h.step h'.buf h'.ap h'.grew
theorem App.below_nil (h : App W (.slice none 0 0) e sz N xs w v m ys) : Below W.heap.size W w := h.ap.below_nil
end

def bcs (l : List UInt8) : List Value := l.map fun b => Value.int .u8 (b.toNat : Int)
theorem bcs_length (l : List UInt8) : (bcs l).length = l.length := List.length_map _
theorem bcs_append (l m : List UInt8) : bcs (l ++ m) = bcs l ++ bcs m := List.map_append
def BBuf (w : World) (e : TypeId) (v : Value) (l : List UInt8) : Prop := Buf w e 1 v l.length (bcs l)
def BApp (W : World) (V : Value) (e : TypeId) (xs : List UInt8) (w : World) (v : Value) (ys : List UInt8) : Prop := App W V e 1 xs.length (bcs xs) w v ys.length (bcs ys)
theorem BBuf.nil (w : World) (e : TypeId) : BBuf w e (.slice none 0 0) [] := Buf.nil w e 1
theorem BApp.start' {W : World} {V : Value} {e : TypeId} {xs : List UInt8} (h : BBuf W e V xs) : BApp W V e xs W V [] := App.start' h
section
variable {W : World} {V : Value} {e : TypeId} {xs : List UInt8} {w w' : World} {v v' : Value} {ys zs : List UInt8}
theorem BApp.buf (h : BApp W V e xs w v ys) : BBuf w e v (xs ++ ys) := by
 have := App.buf h
 unfold BBuf
 rw [bcs_append, List.length_append]
 exact this
theorem BApp.alloc (h : BApp W V e xs w v ys) (o : Obj) : BApp W V e xs (w.alloc o) v ys := App.alloc h o
theorem BApp.drew (h : BApp W V e xs w v ys) : BApp W V e xs w.drew v ys := App.drew h
theorem BApp.below (h : BApp W V e xs w v ys) (hb : Below w.heap.size w w') : BApp W V e xs w' v ys := App.below h hb
theorem BApp.step (h : BApp W V e xs w v ys) (hb : Buf w' e 1 v' (xs.length + ys.length + zs.length) (bcs xs ++ bcs ys ++ bcs zs)) (ha : Ap w w' 1 v) (hg : Grew w v v') : BApp W V e xs w' v' (ys ++ zs) := by
 have := App.step h hb ha hg
 unfold BApp
 rw [bcs_append, List.length_append]
 exact this
theorem BApp.trans (h : BApp W V e xs w v ys) (h' : BApp w v e (xs ++ ys) w' v' zs) : BApp W V e xs w' v' (ys ++ zs) := by
 have h2 := App.buf h'
 rw [bcs_append, List.length_append] at h2
 exact h.step h2 h'.ap h'.grew
theorem BApp.nil_below (h : BApp W (.slice none 0 0) e xs w v ys) : Below W.heap.size W w := App.below_nil h
theorem BBuf.alloc (h : BBuf w e v xs) (o : Obj) : BBuf (w.alloc o) e v xs := Buf.alloc h o
theorem BBuf.below (h : BBuf w e v xs) (hb : Below w.heap.size w w') : BBuf w' e v xs := Buf.below h hb
theorem BBuf.drew (h : BBuf w e v xs) : BBuf w.drew e v xs := Buf.drew h
end
def RetB (W : World) (V : Value) (e : TypeId) (xs ys : List UInt8) (en : Ending) (w' : World) : Prop := ∃ v, en = .returned v /\ BApp W V e xs w' v ys

theorem wpList_append_buf {P : Program} {ops : Array Oper} {rest : List Oper} {o : Oper} {a : Act} {Q : Exit -> Act -> World -> Prop} {w : World} (hgd : o.guard = none) (s x : Operand) (t tx : TypeId)
  (ho : o.op = .call { callee := .builtin .append, args := #[s, x], argTypes := #[t, tx] })
  {e : TypeId} (i : TypeInfo) (z : Value) {sz : Nat} (bytes : Nat) (ht : P.underlying t = some (.slice e)) (hi : P.info? e = some i) (hz : i.zero = some z) (hsize : i.size = sz) (hby : i.bytes = bytes) (hzs : z.cells.size = sz)
  {v : Value} {n : Nat} {xs : List Value} (hv : a.eval s = v) (h : Buf w e sz v n xs) {y : Value} {m : Nat} {news : List Value} (hx : a.eval x = y) (hs : Src P sz tx y m news w) (h63 : n + m <= maxLen) (hbytes : (n + m) * bytes <= 140737488355328)
  (K : ∀ v' w', Buf w' e sz v' (n + m) (xs ++ news) -> Ap w w' sz v -> Grew w v v' -> wpList P ops Q rest (a.put o.dst v') w') : wpList P ops Q (o :: rest) a w := by
 refine wpList_plain hgd fun K' hK => ?_
 obtain ⟨v', w', hr, h2, h3, h4⟩ := run_append_buf (P := P) t tx o.type i z bytes ht hi hz hsize hby hzs h y m news hs h63 hbytes
 unfold Oper.wp execOp
 simp only [ho, resolve, invoke, builtin, Sem.run_bind, Sem.run_pure, Result.andThen_ok, List.map_toArray, List.map_cons, List.map_nil, hv, hx, hr]
 exact hK _ _ (K v' w' h2 h3 h4)

structure ByteTy (P : Program) (t e : TypeId) : Prop where
 slice : P.underlying t = some (.slice e)
 byte : P.underlying e = some (.int .u8)
 info : ∃ i, P.info? e = some i /\ i.zero = some (.int .u8 0) /\ i.size = 1 /\ i.bytes = 1

theorem wpList_append_src {P : Program} {ops : Array Oper} {rest : List Oper} {o : Oper} {a : Act} {Q : Exit -> Act -> World -> Prop} {w : World} (hgd : o.guard = none) (s x : Operand) (t tx : TypeId)
  (ho : o.op = .call { callee := .builtin .append, args := #[s, x], argTypes := #[t, tx] }) {e : TypeId} (hT : ByteTy P t e)
  {W : World} {V : Value} {xs ys : List UInt8} {v : Value} (hv : a.eval s = v) (h : BApp W V e xs w v ys) {y : Value} {zs : List UInt8} (hx : a.eval x = y) (hs : Src P 1 tx y zs.length (bcs zs) w) (hlen : xs.length + ys.length + zs.length <= 140737488355328)
  (K : ∀ v' w', BApp W V e xs w' v' (ys ++ zs) -> wpList P ops Q rest (a.put o.dst v') w') : wpList P ops Q (o :: rest) a w := by
 obtain ⟨i, hi, hz, hs1, hb1⟩ := hT.info
 exact wpList_append_buf hgd s x t tx ho i _ 1 hT.slice hi hz hs1 hb1 rfl hv (App.buf h) hx hs (by simp only [maxLen]; omega) (by omega) fun v' w' h1 h2 h3 => K v' w' (h.step h1 h2 h3)

theorem src_one {P : Program} {t e : TypeId} (hT : P.underlying t = some (.slice e)) (w : World) (z : Int) (b : UInt8) (hz : z = (b.toNat : Int)) : Src P 1 t (.slice (some ⟨w.heap.size, 0, none⟩) 1 1) [b].length (bcs [b]) (w.alloc (.cells #[.int .u8 z] e)) := by
 subst hz
 refine Src.ofSlice _ hT _ _ _ _ rfl (fun j u hu => ?_) (fun u hu => ?_)
 ·match j, hu with
  | 0, hu =>
   simp only [bcs, List.map_cons, List.map_nil, List.getElem?_cons_zero, Option.some.injEq] at hu
   subst hu
   rw [addr_add, World.cell?_alloc_new]
   rfl
  | j + 1, hu => simp [bcs] at hu
 ·simp [bcs] at hu
  subst hu
  rfl

theorem wpList_append_byte {P : Program} {ops : Array Oper} {rest : List Oper} {o : Oper} {a : Act} {Q : Exit -> Act -> World -> Prop} {w : World} (hgd : o.guard = none) (s x : Operand) (t : TypeId)
  (ho : o.op = .call { callee := .builtin .append, args := #[s, x], argTypes := #[t, t] }) {e : TypeId} (hT : ByteTy P t e)
  {W : World} {V : Value} {xs ys : List UInt8} {v : Value} {z : Int} (b : UInt8) (hz : z = (b.toNat : Int)) (hv : a.eval s = v) (h : BApp W V e xs w v ys) (hx : a.eval x = .slice (some ⟨w.heap.size, 0, none⟩) 1 1) (hlen : xs.length + ys.length + 1 <= 140737488355328)
  (K : ∀ v' w', BApp W V e xs w' v' (ys ++ [b]) -> wpList P ops Q rest (a.put o.dst v') w') : wpList P ops Q (o :: rest) a (w.alloc (.cells #[.int .u8 z] e)) :=
 wpList_append_src hgd s x t t ho hT hv (h.alloc _) hx (src_one hT.slice w z b hz) hlen K

theorem wpList_append_str {P : Program} {ops : Array Oper} {rest : List Oper} {o : Oper} {a : Act} {Q : Exit -> Act -> World -> Prop} {w : World} (hgd : o.guard = none) (s x : Operand) (t tx : TypeId)
  (ho : o.op = .call { callee := .builtin .append, args := #[s, x], argTypes := #[t, tx] }) {e : TypeId} (hT : ByteTy P t e) (hx' : P.underlying tx = some .string)
  {W : World} {V : Value} {xs ys : List UInt8} {v : Value} (z : ByteArray) (hv : a.eval s = v) (h : BApp W V e xs w v ys) (hx : a.eval x = .string z) (hlen : xs.length + ys.length + z.size <= 140737488355328)
  (K : ∀ v' w', BApp W V e xs w' v' (ys ++ z.data.toList) -> wpList P ops Q rest (a.put o.dst v') w') : wpList P ops Q (o :: rest) a w :=
 wpList_append_src hgd s x t tx ho hT hv h hx (Src.ofString w hx' z) hlen K

def bs (l : List UInt8) : ByteArray := ⟨l.toArray⟩
theorem bs_data (l : List UInt8) : (bs l).data.toList = l := rfl
@[go_sem] theorem bs_size (l : List UInt8) : (bs l).size = l.length := rfl
theorem bs_eta (s : ByteArray) : bs s.data.toList = s := rfl
theorem bs_extract (l : List UInt8) (a b : Nat) : (bs l).extract a b = bs ((l.drop a).take (b - a)) := ByteArray.extract_mk l a b
@[go_sem] theorem bs_toList (l : List UInt8) : (bs l).toList = l := ByteArray.toList_mk l
theorem bs_isEmpty (l : List UInt8) : (bs l).toList.isEmpty = l.isEmpty := by rw [bs_toList]
@[go_sem] theorem bs_append (l m : List UInt8) : bs l ++ bs m = bs (l ++ m) := ByteArray.mk_append_mk l m
theorem size_eq (s : ByteArray) : s.size = s.data.toList.length := rfl

theorem strOfNums_bs (l : List UInt8) : strOfNums (l.map fun b => (b.toNat : Int)) = bs l := by
 unfold strOfNums bs
 rw [List.map_map]
 have : (List.map ((fun n : Int => UInt8.ofNat n.toNat) ∘ fun b : UInt8 => (b.toNat : Int)) l) = l := by
  conv => rhs; rw [<- List.map_id l]
  refine List.map_congr_left fun b _ => ?_
  simp
 rw [this]

theorem BBuf.string {P : Program} {w : World} {t e : TypeId} {v : Value} {l : List UInt8} (hT : ByteTy P t e) (h : BBuf w e v l) : ∀ dst, P.underlying dst = some .string -> (convert t dst v).run P w = .ok (.string (bs l)) w := by
 intro dst hd
 obtain ⟨A, c, rfl, hle⟩ := Buf.shape h
 rcases Nat.eq_zero_or_pos l.length with h0 | h0
 ·obtain rfl : l = [] := List.eq_nil_of_length_eq_zero h0
  cases A with
  | none => exact run_convert_bytes_nil w t e hT.slice hT.byte _ _ dst hd
  | some a =>
   rw [run_convert_bytes_string w t dst e _ _ _ hT.slice hT.byte hd]
   simp [Conv.bytesToString, loadCells, loadCellsFrom, bs]
   rfl
 ·obtain ⟨b, o, rfl, _, hc⟩ := Buf.cell h h0
  have := run_convert_bytes_arg (P := P) w t e hT.slice hT.byte b o l.length c (l.map fun b => (b.toNat : Int)) (by simp) (fun i hi => by
   rw [hc i (by omega)]
   simp [bcs, List.getElem?_eq_getElem hi]) dst hd
  rw [this, strOfNums_bs]

theorem conv_one {P : Program} {t e : TypeId} (hT : ByteTy P t e) (dst : TypeId) (hd : P.underlying dst = some .string) (w : World) (z : Int) (b : UInt8) (h : z = (b.toNat : Int)) :
  (convert t dst (.slice (some ⟨w.heap.size, 0, none⟩) 1 1)).run P (w.alloc (.cells #[.int .u8 z] e)) = .ok (.string (bs [b])) (w.alloc (.cells #[.int .u8 z] e)) := by
 have := run_convert_bytes_arg (P := P) (w.alloc (.cells #[.int .u8 z] e)) t e hT.slice hT.byte w.heap.size 0 1 1 [z] rfl (fun i hi => by
  obtain rfl : i = 0 := by omega
  rw [World.cell?_alloc_new]; rfl) dst hd
 rw [this]
 subst h
 simp [strOfNums, bs]

theorem run_bytes_buf {P : Program} {t e : TypeId} (hT : ByteTy P t e) (src : TypeId) (hs : P.underlying src = some .string) (w : World) (s : ByteArray) (hl : s.size <= maxLen) :
  ∃ v w', (convert src t (.string s)).run P w = .ok v w' /\ BBuf w' e v s.data.toList /\ Below w.heap.size w w' /\ v.ownBlock = some w.heap.size := by
 have hge := grownCap_ge w s.size 0 e
 have hcm := grownCap_le_maxLen w s.size 0 e hl
 have hsz : (bytesRow s (grownCap w s.size 0 e)).size = grownCap w s.size 0 e := by
  have e1 : s.data.size = s.size := rfl
  simp only [bytesRow, Array.size_append, Array.size_map, Array.size_replicate, e1]
  omega
 refine ⟨_, _, run_bytes_of_string w src t e s hs hT.slice hT.byte, ⟨by rw [bcs_length, Nat.mul_one], some ⟨w.heap.size, 0, none⟩, grownCap w s.size 0 e, rfl, hge, hcm, fun _ => ⟨w.heap.size, 0, _, _, rfl, heap_alloc_new w.drew _, ?_, ?_, ?_⟩⟩, ⟨rfl, rfl, rfl, by simp, fun k hk => Below.heap_alloc w.drew _ k hk⟩, rfl⟩
 ·rw [hsz]; omega
 ·intro i _ hi h
  rw [hsz] at h
  omega
 ·intro j hj
  have hj' : j < s.data.size := by rw [Nat.mul_one] at hj; exact hj
  rw [Nat.zero_add, bytesRow_at s _ j hj']
  simp only [bcs, List.getElem?_map, Array.getElem?_toList, Array.getElem?_eq_getElem hj', Option.map_some]

theorem wpList_bytes {P : Program} {ops : Array Oper} {rest : List Oper} {o : Oper} {a : Act} {Q : Exit -> Act -> World -> Prop} {w : World} (hgd : o.guard = none) (x : Operand) (t src : TypeId) (ho : o.op = .convert src t x) {e : TypeId} (hT : ByteTy P t e)
  (hsrc : P.underlying src = some .string) (s : ByteArray) (hx : a.eval x = .string s) (hl : s.size <= maxLen)
  (K : ∀ v w', BBuf w' e v s.data.toList -> Below w.heap.size w w' -> v.ownBlock = some w.heap.size -> wpList P ops Q rest (a.put o.dst v) w') : wpList P ops Q (o :: rest) a w := by
 refine wpList_plain hgd fun K' hK => ?_
 obtain ⟨v, w', hr, h1, h2, h3⟩ := run_bytes_buf (P := P) hT src hsrc w s hl
 unfold Oper.wp execOp
 simp only [ho, Sem.run_bind, Sem.run_pure, Result.andThen_ok, hx, hr]
 exact hK _ _ (K v w' h1 h2 h3)

theorem ofInt_i64 (a : Nat) (ha : a < 9223372036854775808) : (BitVec.ofInt 64 (a : Int)).toNat = a := by
 rw [BitVec.ofInt_natCast, BitVec.toNat_ofNat]; exact Nat.mod_eq_of_lt (by omega)
theorem i64_and_nat (a b : Nat) (ha : a < 9223372036854775808) (hb : b < 9223372036854775808) : bits .and .i64 (a : Int) (b : Int) = ((a &&& b : Nat) : Int) := by
 have hx : a &&& b < 2 ^ 63 := Nat.and_lt_two_pow _ (by omega)
 show IntKind.i64.wrap ((BitVec.ofInt 64 (a : Int) &&& BitVec.ofInt 64 (b : Int)).toNat : Int) = _
 rw [BitVec.toNat_and, ofInt_i64 a ha, ofInt_i64 b hb, IntKind.wrap_i64]
 omega
theorem i64_or_nat (a b : Nat) (ha : a < 9223372036854775808) (hb : b < 9223372036854775808) : bits .or .i64 (a : Int) (b : Int) = ((a ||| b : Nat) : Int) := by
 have hx : a ||| b < 2 ^ 63 := Nat.or_lt_two_pow (by omega) (by omega)
 show IntKind.i64.wrap ((BitVec.ofInt 64 (a : Int) ||| BitVec.ofInt 64 (b : Int)).toNat : Int) = _
 rw [BitVec.toNat_or, ofInt_i64 a ha, ofInt_i64 b hb, IntKind.wrap_i64]
 omega
theorem i64_and7 (n : Nat) (h : n < 9223372036854775808) : bits .and .i64 (n : Int) 7 = ((n % 8 : Nat) : Int) := by
 have := i64_and_nat n 7 h (by omega)
 rw [nat_mask3] at this
 exact this

theorem index_bs {P : Program} {t : TypeId} (h : P.underlying t = some .string) (k : IntKind) (l : List UInt8) (z : Int) (i : Nat) (c : UInt8) (hz : z = (i : Int)) (hi : l[i]? = some c) (w : World) :
  (Instr.index t (.string (bs l)) (.int k z)).run P w = .ok (.int .u8 (c.toNat : Int)) w := by
 subst hz
 obtain ⟨hl, hc⟩ := List.getElem?_eq_some_iff.1 hi
 rw [run_index_string (P := P) (w := w) t (bs l) k (i : Int) h, dif_pos ⟨by omega, by rw [bs_size]; omega⟩]
 subst hc
 rfl

end Go.Bar
