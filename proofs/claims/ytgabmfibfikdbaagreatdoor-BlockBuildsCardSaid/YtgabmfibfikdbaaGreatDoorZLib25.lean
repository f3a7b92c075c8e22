/-
 Library 25: what only turns blocks of some types.
-/
import Derived.Test.YtgabmfibfikdbaaGreatDoorZLib9
import Derived.Test.YtgabmfibfikdbaaGreatDoorZLib14
import Derived.Test.YtgabmfibfikdbaaGreatDoorZLib11

namespace Go.RowKit
open Go.Bar

structure Ke (Ts : TypeId -> Prop) (w w' : World) : Prop where
 os : w'.os = w.os
 tape : w'.tape = w.tape
 output : w'.output = w.output
 size : w.heap.size <= w'.heap.size
 block : ∀ k, k < w.heap.size -> (∀ cur T fr, w.heap[k]? = some (.cells cur T fr) -> ¬ Ts T) -> w'.heap[k]? = w.heap[k]?
section
variable {Ts : TypeId -> Prop} {w w' : World}
theorem Ke.refl (Ts : TypeId -> Prop) (w : World) : Ke Ts w w := ⟨rfl, rfl, rfl, Nat.le_refl _, fun _ _ _ => rfl⟩
theorem Ke.trans {a b c : World} (h : Ke Ts a b) (k : Ke Ts b c) : Ke Ts a c := ⟨k.os.trans h.os, k.tape.trans h.tape, k.output.trans h.output, Nat.le_trans h.size k.size, fun i hi ht => by
 have e := h.block i hi ht
 rw [k.block i (Nat.lt_of_lt_of_le hi h.size) (by rw [e]; exact ht), e]⟩
theorem Ke.of_below (h : Below w.heap.size w w') : Ke Ts w w' := ⟨h.os, h.tape, h.output, h.size, fun k hk _ => h.block k hk⟩
theorem Ke.wide {Us : TypeId -> Prop} (h : Ke Ts w w') (hs : ∀ T, Ts T -> Us T) : Ke Us w w' := ⟨h.os, h.tape, h.output, h.size, fun k hk ht => h.block k hk fun cur T fr he hT => ht cur T fr he (hs T hT)⟩
theorem Ke.blk (h : Ke Ts w w') {M : Nat} {T : TypeId} {cur : Array Value} (hb : Blk w M T cur) (hT : ¬ Ts T) : Blk w' M T cur := by
 refine (h.block M hb.lt fun cur' T' fr he => ?_).trans hb
 unfold Blk at hb
 rw [hb] at he
 injection he with he
 injection he with _ ht _
 subst ht
 exact hT
theorem Ke.buf (h : Ke Ts w w') {e : TypeId} {sz n : Nat} {v : Value} {xs : List Value} (hb : Buf w e sz v n xs) (hT : ¬ Ts e) : Buf w' e sz v n xs := by
 obtain ⟨hl, A, c, he, hnc, hc, hv⟩ := hb
 refine ⟨hl, A, c, he, hnc, hc, fun h0 => ?_⟩
 obtain ⟨b, o, cur, fr, hA, hbk, hs, hf, hx⟩ := hv h0
 refine ⟨b, o, cur, fr, hA, (h.block b (Array.getElem?_eq_some_iff.1 hbk).1 fun cur' T' fr' he' => ?_).trans hbk, hs, hf, hx⟩
 rw [hbk] at he'
 injection he' with he'
 injection he' with _ ht _
 subst ht
 exact hT
theorem Ke.of_set {M : Nat} {T : TypeId} {cur : Array Value} (h : Blk w M T cur) (hT : Ts T) (i : Nat) (u : Value) : Ke Ts w (w.setCell ⟨M, i, none⟩ u) := by
 have hf : Fr (fun k _ => k = M) w (w.setCell ⟨M, i, none⟩ u) := (Fr.refl (fun k _ => k = M) w).setCell (fun _ => rfl) _
 refine ⟨hf.os, hf.tape, hf.output, hf.size, fun k hk ht => hf.block hk fun j hj => ?_⟩
 have hj : k = M := hj
 subst hj
 exact ht _ _ _ h hT
theorem Ke.of_buf {e : TypeId} {sz n b o c : Nat} {xs : List Value} (h : Buf w e sz (.slice (some ⟨b, o, none⟩) n c) n xs) (hn : 0 < n) (hT : Ts e) (i : Nat) (u : Value) : Ke Ts w (w.setCell ⟨b, i, none⟩ u) := by
 have hf : Fr (fun k _ => k = b) w (w.setCell ⟨b, i, none⟩ u) := (Fr.refl (fun k _ => k = b) w).setCell (fun _ => rfl) _
 refine ⟨hf.os, hf.tape, hf.output, hf.size, fun k hk ht => hf.block hk fun j hj => ?_⟩
 have hj : k = b := hj
 subst hj
 obtain ⟨_, A', c', he, hnc, _, hv⟩ := h
 injection he with h1 h2 h3
 subst h1; subst h3
 obtain ⟨b', o', cur, fr, h4, hbk, _⟩ := hv (by omega)
 injection h4 with h4
 injection h4 with h4 _ _
 subst h4
 exact ht _ _ _ hbk hT
theorem Ke.of_ap {e : TypeId} {sz n : Nat} {v : Value} {xs : List Value} (hb : Buf w e sz v n xs) (ha : Ap w w' sz v) (hT : Ts e) : Ke Ts w w' := by
 refine ⟨ha.os, ha.tape, ha.output, ha.size, fun k hk ht => ?_⟩
 rcases ha.block k hk with h1 | ⟨o, n', c, cur, cur', e', fr, hv, h2, h3, h4, h5⟩
 ·exact h1
 ·obtain ⟨_, A, c', he, hnc, _, hval⟩ := hb
  rw [he] at hv
  injection hv with e1 e2 e3
  subst e1; subst e2; subst e3
  rcases Nat.eq_zero_or_pos c' with h0 | h0
  ·subst h0
   have : cur' = cur := Array.ext_getElem? (fun i => h5 i (by omega))
   rw [h2, h3, this]
  ·obtain ⟨b', o', cur2, fr2, hA, hbk, _⟩ := hval h0
   injection hA with hA
   injection hA with hA _ _
   subst hA
   exact absurd hT (ht _ _ _ hbk)
end
end Go.RowKit
