/-
  Library 35: what may turn blocks of some types and some maps only. Plain lemmas over any program; no condition.
-/
import Derived.Test.YtnoebccoaeiakaaGreatDoorZLib31
import Derived.Test.YtnoebccoaeiakaaGreatDoorZLib34

namespace Go.RowKit
open Go.Bar

structure Kx (Ts : TypeId → Prop) (Ms : Nat → Prop) (w w' : World) : Prop where
  kc : Kc Ts w w'
  mp : ∀ (k : Nat) es cl, w.heap[k]? = some (.map es cl) → ¬ Ms k → w'.heap[k]? = some (.map es cl)
section
variable {Ts : TypeId → Prop} {Ms : Nat → Prop} {w w' : World}
theorem Kx.refl (Ts : TypeId → Prop) (Ms : Nat → Prop) (w : World) : Kx Ts Ms w w := ⟨Kc.refl Ts w, fun _ _ _ h _ => h⟩
theorem Kx.trans {a b c : World} (h : Kx Ts Ms a b) (k : Kx Ts Ms b c) : Kx Ts Ms a c := ⟨h.kc.trans k.kc, fun i es cl he hm => k.mp i es cl (h.mp i es cl he hm) hm⟩
theorem Kx.of_below (h : Below w.heap.size w w') : Kx Ts Ms w w' := ⟨Kc.of_below h, fun k _ _ he _ => (h.block k (Array.getElem?_eq_some_iff.1 he).1).trans he⟩
theorem Kx.wide {Us : TypeId → Prop} {Ns : Nat → Prop} (h : Kx Ts Ms w w') (hs : ∀ T, Ts T → Us T) (hn : ∀ k, Ms k → Ns k) : Kx Us Ns w w' := ⟨h.kc.wide hs, fun k es cl he hm => h.mp k es cl he fun hh => hm (hn k hh)⟩
theorem Kx.blk (h : Kx Ts Ms w w') {M : Nat} {T : TypeId} {cur : Array Value} (hb : Blk w M T cur) (hT : ¬ Ts T) : Blk w' M T cur := h.kc.blk hb hT
theorem Kx.buf (h : Kx Ts Ms w w') {e : TypeId} {sz n : Nat} {v : Value} {xs : List Value} (hb : Buf w e sz v n xs) (hT : ¬ Ts e) : Buf w' e sz v n xs := h.kc.buf hb hT
theorem Kx.map {κ α : Type} {K : Kyk κ} {E : Elk α} {z : α} {P : Program} {k : TypeId} {b n : Nat} {f : κ → Option α} (h : Kx Ts Ms w w') (hm : MfAt P k K E z w b n f) (hb : ¬ Ms b) : MfAt P k K E z w' b n f := by
  obtain ⟨es, cl, he⟩ := hm.is_map
  exact hm.block ((h.mp b es cl he hb).trans he.symm)
theorem Kx.of_ke (h : Ke Ts w w') : Kx Ts Ms w w' := ⟨Kc.of_ke h, fun k es cl he _ => (h.block k (Array.getElem?_eq_some_iff.1 he).1 fun cur T fr he' => by rw [he] at he'; cases he').trans he⟩
theorem Kx.of_set {M : Nat} {T : TypeId} {cur : Array Value} (h : Blk w M T cur) (hT : Ts T) (i : Nat) (u : Value) : Kx Ts Ms w (w.setCell ⟨M, i, none⟩ u) := Kx.of_ke (Ke.of_set h hT i u)
theorem Kx.of_map {b : Nat} (h : ∃ es clock, w.heap[b]? = some (.map es clock)) (hg : w.grownBy w' (some b)) (hb : Ms b) : Kx Ts Ms w w' :=
  ⟨Kc.of_map h hg, fun k es cl he hm => (hg.block k (Array.getElem?_eq_some_iff.1 he).1 (fun e => by injection e with e; subst e; exact hm hb)).trans he⟩
theorem Kx.of_ap {e : TypeId} {sz n : Nat} {v : Value} {xs : List Value} (hb : Buf w e sz v n xs) (ha : Ap w w' sz v) (hT : Ts e) : Kx Ts Ms w w' := Kx.of_ke (Ke.of_ap hb ha hT)
end
end Go.RowKit
