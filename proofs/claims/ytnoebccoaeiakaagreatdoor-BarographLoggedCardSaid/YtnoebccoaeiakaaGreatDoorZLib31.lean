/-
  Library 31: what may turn maps, channels and blocks of some types only. Plain lemmas over any program; no condition.
-/
import Derived.Test.YtnoebccoaeiakaaGreatDoorZLib25
import Derived.Test.YtnoebccoaeiakaaGreatDoorZLib17
import Derived.Conc.LoneCalls

namespace Go.RowKit
open Go.Bar

structure Kc (Ts : TypeId → Prop) (w w' : World) : Prop where
  os : w'.os = w.os
  tape : w'.tape = w.tape
  output : w'.output = w.output
  size : w.heap.size ≤ w'.heap.size
  block : ∀ (k : Nat) cur T fr, w.heap[k]? = some (.cells cur T fr) → ¬ Ts T → w'.heap[k]? = some (.cells cur T fr)
section
variable {Ts : TypeId → Prop} {w w' : World}
theorem Kc.refl (Ts : TypeId → Prop) (w : World) : Kc Ts w w := ⟨rfl, rfl, rfl, Nat.le_refl _, fun _ _ _ _ h _ => h⟩
theorem Kc.trans {a b c : World} (h : Kc Ts a b) (k : Kc Ts b c) : Kc Ts a c := ⟨k.os.trans h.os, k.tape.trans h.tape, k.output.trans h.output, Nat.le_trans h.size k.size, fun i cur T fr he ht => k.block i cur T fr (h.block i cur T fr he ht) ht⟩
theorem Kc.of_ke (h : Ke Ts w w') : Kc Ts w w' := ⟨h.os, h.tape, h.output, h.size, fun k cur T fr he ht => (h.block k (Array.getElem?_eq_some_iff.1 he).1 (fun cur' T' fr' he' => by rw [he] at he'; injection he' with he'; injection he' with _ e _; rw [← e]; exact ht)).trans he⟩
theorem Kc.of_below (h : Below w.heap.size w w') : Kc Ts w w' := Kc.of_ke (Ke.of_below h)
theorem Kc.wide {Us : TypeId → Prop} (h : Kc Ts w w') (hs : ∀ T, Ts T → Us T) : Kc Us w w' := ⟨h.os, h.tape, h.output, h.size, fun k cur T fr he hu => h.block k cur T fr he (fun ht => hu (hs T ht))⟩
theorem Kc.blk (h : Kc Ts w w') {M : Nat} {T : TypeId} {cur : Array Value} (hb : Blk w M T cur) (hT : ¬ Ts T) : Blk w' M T cur := h.block M cur T _ hb hT
theorem Kc.buf (h : Kc Ts w w') {e : TypeId} {sz n : Nat} {v : Value} {xs : List Value} (hb : Buf w e sz v n xs) (hT : ¬ Ts e) : Buf w' e sz v n xs := by
  obtain ⟨hl, A, c, he, hnc, hc, hv⟩ := hb
  refine ⟨hl, A, c, he, hnc, hc, fun h0 => ?_⟩
  obtain ⟨b, o, cur, fr, hA, hbk, hs, hf, hx⟩ := hv h0
  exact ⟨b, o, cur, fr, hA, h.block _ _ _ _ hbk hT, hs, hf, hx⟩
theorem Kc.of_set {M : Nat} {T : TypeId} {cur : Array Value} (h : Blk w M T cur) (hT : Ts T) (i : Nat) (u : Value) : Kc Ts w (w.setCell ⟨M, i, none⟩ u) := Kc.of_ke (Ke.of_set h hT i u)
theorem Kc.of_chan {c : Nat} {cap : Nat} {buf : Array Value} {cl : Bool} {s r : Nat} {tm : Bool} (h : w.heap[c]? = some (.chan cap buf cl s r tm)) (cap' : Nat) (buf' : Array Value) (cl' : Bool) (s' r' : Nat) (tm' : Bool) : Kc Ts w (w.setChan c cap' buf' cl' s' r' tm') := by
  refine ⟨rfl, rfl, rfl, Nat.le_of_eq (Conc.size_setChan w c cap' buf' cl' s' r' tm').symm, fun k cur T fr he _ => ?_⟩
  have hne : k ≠ c := fun e => by subst e; rw [h] at he; cases he
  show (w.heap.setIfInBounds c _)[k]? = _
  rw [Array.getElem?_setIfInBounds_ne (Ne.symm hne)]
  exact he
theorem Kc.of_map {b : Nat} (h : ∃ es clock, w.heap[b]? = some (.map es clock)) (hg : w.grownBy w' (some b)) : Kc Ts w w' := by
  refine ⟨hg.os, hg.tape, hg.output, hg.size, fun k cur T fr he _ => ?_⟩
  refine (hg.block k (Array.getElem?_eq_some_iff.1 he).1 (fun e => ?_)).trans he
  injection e with e
  subst e
  obtain ⟨es, clock, h⟩ := h
  rw [h] at he
  cases he
end
end Go.RowKit
