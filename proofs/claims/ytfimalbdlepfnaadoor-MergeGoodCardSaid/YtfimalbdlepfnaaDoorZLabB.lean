/-
  Layer 6: the walks of label's Key and Check.
-/
import Derived.Test.YtfimalbdlepfnaaDoorZLebA
import Derived.Deep.RegionWith
import Derived.Test.YtfimalbdlepfnaaDoorZLib9
import Derived.Test.YtfimalbdlepfnaaDoorZShelf
import Derived.Lib.Builder
import Derived.Lib.AppendStr
import Derived.Laws.Externs
import Derived.Test.YtfimalbdlepfnaaDoorZLabD
import Derived.Test.YtfimalbdlepfnaaDoorZLib13

namespace Go.Proofs.YtfimalbdlepfnaaDoor
open Go.RowKit Go.Bar Go.Bar.Leb Go.Bar.Lab

end Go.Proofs.YtfimalbdlepfnaaDoor

/-
  strings.Builder: the walks of copyCheck, WriteByte, WriteString at this dump; its String is the kit's.
-/
namespace Go.Proofs.YtfimalbdlepfnaaDoor
open Go.RowKit Go.Bar

/-- what a write to the builder b leaves: all other blocks, but for bytes -/
def SbFr (b : Nat) (w w' : World) : Prop := ∀ k, k < w.heap.size → k ≠ b → (∀ cur fr, w.heap[k]? ≠ some (.cells cur 5 fr)) → w'.heap[k]? = w.heap[k]?
theorem SbFr.blk {b : Nat} {w w' : World} (h : SbFr b w w') {M : Nat} {T : TypeId} {cur : Array Value} (hb : Blk w M T cur) (hne : M ≠ b) (hT : T ≠ 5) : Blk w' M T cur :=
  (h M hb.lt hne (fun c fr hc => by unfold Blk at hb; rw [hb] at hc; injection hc with hc; injection hc with _ hc _; exact hT hc)).trans hb
theorem owns_ne {w : World} {B : Nat} {v : Value} {n : Nat} {xs : List Value} (hown : w.ownsRow B 5 1 v n xs) {k : Nat} (hk : ∀ cur fr, w.heap[k]? ≠ some (.cells cur 5 fr)) : v.ownBlock ≠ some k := by
  rcases hown.2 with ⟨rfl, _⟩ | ⟨g, cap, cur, rfl, _, hg, _⟩
  · simp [Value.ownBlock]
  · intro h
    simp only [Value.ownBlock, Option.some.injEq] at h
    subst h
    exact hk _ _ hg

end Go.Proofs.YtfimalbdlepfnaaDoor

/-
  Layer 6: the walks of label's String and Take.
-/
namespace Go.Proofs.YtfimalbdlepfnaaDoor
open Go.RowKit Go.Bar Go.Bar.Leb Go.Bar.Lab

theorem text_take_succ {l : List Pr} {k : Nat} {p : Pr} (h : l[k]? = some p) : Lab.text (l.take (k + 1)) = Lab.text (l.take k) ++ ((if k = 0 then [] else [44]) ++ Lab.one p) := by
  obtain ⟨h1, h2⟩ := List.getElem?_eq_some_iff.1 h
  rw [List.take_add_one, h]
  simp only [Option.toList_some]
  rw [text_snoc, List.length_take]
  rw [show min k l.length = k by omega]

theorem pair_str (p : Pr) : bs p.1 ++ ({ data := #[61] } : ByteArray) ++ bs p.2 = bs (p.1 ++ 61 :: p.2) := by
  show bs p.1 ++ bs [61] ++ bs p.2 = _
  rw [bs_append, bs_append]
  simp

theorem snoc_val (ps : List Pr) (p : Pr) : pcs (ps ++ [p]) = pcs ps ++ [.string (bs p.1), .string (bs p.2)] := pcs_snoc ps p

/-- how taking goes on: these pairs have come -/
def TkS (s0 : List Pr × List UInt8 × Nat) (n : Nat) (s : List UInt8) (e : Nat) (ps : List Pr) : Prop :=
  if e = 0 then s0 = (if (tp n s).2.2 ≠ 0 then ([], [], (tp n s).2.2) else (ps ++ (tp n s).1, (tp n s).2.1, 0)) else s0 = ([], [], e)
theorem TkS.step {s0 : List Pr × List UInt8 × Nat} {n : Nat} {s a s1 b s2 : List UInt8} {ps : List Pr} (h : TkS s0 (n + 1) s 0 ps) (h1 : takeText s 40 = (a, s1, 0)) (h2 : takeText s1 40 = (b, s2, 0)) : TkS s0 n s2 0 (ps ++ [(a, b)]) := by
  unfold TkS at *
  rw [if_pos rfl] at *
  rw [h]
  simp only [tp, h1, h2]
  simp only [ne_eq, not_true, if_false]
  split
  · rename_i h3
    simp
  · rename_i h3
    simp
theorem TkS.bad1 {s0 : List Pr × List UInt8 × Nat} {n e1 : Nat} {s a s1 : List UInt8} {ps : List Pr} (h : TkS s0 (n + 1) s 0 ps) (h1 : takeText s 40 = (a, s1, e1)) (he : e1 ≠ 0) : s0 = ([], [], e1) := by
  unfold TkS at *
  rw [if_pos rfl] at h
  rw [h]
  simp [tp, h1, he]
theorem TkS.bad2 {s0 : List Pr × List UInt8 × Nat} {n e2 : Nat} {s a s1 b s2 : List UInt8} {ps : List Pr} (h : TkS s0 (n + 1) s 0 ps) (h1 : takeText s 40 = (a, s1, 0)) (h2 : takeText s1 40 = (b, s2, e2)) (he : e2 ≠ 0) : s0 = ([], [], e2) := by
  unfold TkS at *
  rw [if_pos rfl] at h
  rw [h]
  simp [tp, h1, h2, he]
theorem TkS.bad {s0 : List Pr × List UInt8 × Nat} {n e : Nat} (s : List UInt8) (ps : List Pr) (h : s0 = ([], [], e)) (he : e ≠ 0) : TkS s0 n s e ps := by
  unfold TkS; rw [if_neg he]; exact h
theorem TkS.end_ {s0 : List Pr × List UInt8 × Nat} {s : List UInt8} {ps : List Pr} (h : TkS s0 0 s 0 ps) : s0 = (ps, s, 0) := by
  unfold TkS at h
  simpa [tp] using h

theorem set_ty : ElemTy Tryd.prog 65 81 (.agg #[.string ByteArray.empty, .string ByteArray.empty]) 2 32 :=
  ⟨Tryd.underlying65, info_parts (show (Tryd.prog.info? 81).map (fun i => (i.zero, i.size, i.bytes)) = some (some (.agg #[.string ByteArray.empty, .string ByteArray.empty]), 2, 32) by kernel_rfl), rfl⟩

/-- what Take leaves -/
def RetTk (w : World) (s : List UInt8) (e : Ending) (w' : World) : Prop :=
  ∃ v l r c, Lab.take s = (l, r, c) ∧ e = .returned (.tuple #[v, .string (bs r), .int .i64 (c : Nat)]) ∧ NBuf w w' 81 2 v l.length (pcs l)

end Go.Proofs.YtfimalbdlepfnaaDoor
