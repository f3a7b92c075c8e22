/-
  The frame of a law: the call returned true and nothing that was there has turned, so the row's post holds. Plain lemmas over any program; no condition.
-/
import Derived.Test.YtemmgejaoegpfaaZLib1
import Derived.ProofKit
import Derived.OpenShut
import Derived.ShutString
import Derived.SizedLaws
import Derived.Deep.Slices
import Derived.Deep.Fields

namespace Go.Bar
open Go.RowKit Go.ChangeShapes Go.WideShapes Go.ChangeAt

section
variable {H : Type} {enc : TypeId × Value → H} {P : Program}

theorem trodAll_below (hl : laidOutB P = true) {W W' : World} (hb : Below W.heap.size W W') : ∀ (ts : List TypeId) (vs : List Value) (ds : List (DataW H)) (p : List MemPlace), (∀ t ∈ ts, P.readableRec t = true ∧ t < P.types.size) → (∀ x ∈ p, x.block < W.heap.size) →
    DataW.TrodAll enc P W 0 (fun _ => true) true ts vs ds p → DataW.TrodAll enc P W' 0 (fun b => decide (b < W.heap.size)) true ts vs ds p
  | [], [], [], _, _, _, h => h
  | t :: ts, v :: vs, d :: ds, p, ht, hp, h => by
    obtain ⟨p1, q1, h1, h2, rfl⟩ := h
    exact ⟨p1, q1, Below.trod hl (ht t (by simp)).1 (ht t (by simp)).2 h1 hb (fun x hx => hp x (by simp [hx])), trodAll_below hl hb ts vs ds q1 (fun t' h' => ht t' (by simp [h'])) (fun x hx => hp x (by simp [hx])) h2, rfl⟩
  | [], _ :: _, _, _, _, _, h => by cases h
  | [], [], _ :: _, _, _, _, h => by cases h
  | _ :: _, [], _, _, _, _, h => by cases h
  | _ :: _, _ :: _, [], _, _, _, h => by cases h

/-- THE POST OF A LAW -/
theorem law_post {f : Func} {s : ChangeSpec} {apart : Bool} {W W' : World} {args : Array Value} {ds gs : List (DataW H)} {before : List MemPlace} (hl : laidOutB P = true)
    (hread : ∀ t ∈ f.params.toList, P.readableRec t = true ∧ t < P.types.size) {tb : TypeId} (hres : f.resultTypes = #[tb]) (htb : P.underlying tb = some .bool) (hv : s.vars = [])
    (hspec : s.fn H (ds ++ gs) = { results := [.lit (.bool true)], args := ds }) (hW : DataW.Whole enc P f.params.toList s.vars apart W args.toList ds gs before) (hb : Below W.heap.size W W') :
    s.post enc P f apart true false false W args (.bool true) W' := by
  have hW' := hW
  obtain ⟨p, q, hA, hV, rfl, _, _⟩ := hW
  rw [hv] at hV
  obtain ⟨rfl, rfl⟩ := trodVars_none hV
  have hlt : ∀ x ∈ p, x.block < W.heap.size := fun x hx => hW'.lt x (by simp [hx])
  refine ⟨ds, [], p ++ [], [], p, [], hW', ?_, ?_, ?_, hb.frame _, fun h => by cases h⟩
  · rw [hspec, hres]
    exact trodAll_mk1 (shut_bool htb true)
  · rw [hspec]
    exact trodAll_below hl hb _ _ _ _ hread hlt hA
  · rw [hv, hspec]
    rfl
end

theorem bounds_u64 {n : Int} (h : (Lit.int .u64 n).wf = true) : 0 ≤ n ∧ n < 18446744073709551616 := by
  simp [Lit.wf, IntKind.min, IntKind.max, IntKind.signed, IntKind.bits] at h; omega
theorem bounds_i64 {n : Int} (h : (Lit.int .i64 n).wf = true) : -9223372036854775808 ≤ n ∧ n ≤ 9223372036854775807 := by
  simp [Lit.wf, IntKind.min, IntKind.max, IntKind.signed, IntKind.bits] at h; omega
theorem bounds_u32 {n : Int} (h : (Lit.int .u32 n).wf = true) : 0 ≤ n ∧ n < 4294967296 := by
  simp [Lit.wf, IntKind.min, IntKind.max, IntKind.signed, IntKind.bits] at h; omega
theorem bounds_u8 {n : Int} (h : (Lit.int .u8 n).wf = true) : 0 ≤ n ∧ n < 256 := by
  simp [Lit.wf, IntKind.min, IntKind.max, IntKind.signed, IntKind.bits] at h; omega

end Go.Bar

/-
  Frames: which cells may have turned (Fr); buffers and cells under them; a store into a buffer. Plain lemmas over any program; no condition.
-/
namespace Go.Bar
open Go.RowKit

/-- w' is w, but for the cells in S and new blocks -/
structure Fr (S : Nat → Nat → Prop) (w w' : World) : Prop where
  os : w'.os = w.os
  tape : w'.tape = w.tape
  output : w'.output = w.output
  size : w.heap.size ≤ w'.heap.size
  blk : ∀ k, k < w.heap.size → w'.heap[k]? = w.heap[k]? ∨ ∃ cur cur' e fr, w.heap[k]? = some (.cells cur e fr) ∧ w'.heap[k]? = some (.cells cur' e fr) ∧ cur'.size = cur.size ∧ ∀ i, ¬ S k i → cur'[i]? = cur[i]?

section
variable {S S' : Nat → Nat → Prop} {w w' w'' : World}

theorem Fr.refl (S : Nat → Nat → Prop) (w : World) : Fr S w w := ⟨rfl, rfl, rfl, Nat.le_refl _, fun _ _ => .inl rfl⟩
theorem Fr.of_below (h : Below w.heap.size w w') : Fr S w w' := ⟨h.os, h.tape, h.output, h.size, fun k hk => .inl (h.block k hk)⟩
theorem Fr.mono (h : Fr S w w') (hs : ∀ k i, k < w.heap.size → S k i → S' k i) : Fr S' w w' :=
  ⟨h.os, h.tape, h.output, h.size, fun k hk => (h.blk k hk).imp id fun ⟨cur, cur', e, fr, h1, h2, h3, h4⟩ => ⟨cur, cur', e, fr, h1, h2, h3, fun i hi => h4 i fun hS => hi (hs k i hk hS)⟩⟩
theorem Fr.trans (h : Fr S w w') (h' : Fr S w' w'') : Fr S w w'' := by
  refine ⟨h'.os.trans h.os, h'.tape.trans h.tape, h'.output.trans h.output, Nat.le_trans h.size h'.size, fun k hk => ?_⟩
  rcases h'.blk k (Nat.lt_of_lt_of_le hk h.size) with g | ⟨c1, c2, e1, f1, g1, g2, g3, g4⟩
  · rw [g]; exact h.blk k hk
  · rcases h.blk k hk with k0 | ⟨c3, c4, e2, f2, k1, k2, k3, k4⟩
    · rw [k0] at g1; exact .inr ⟨c1, c2, e1, f1, g1, g2, g3, g4⟩
    · rw [k2] at g1
      injection g1 with g1
      injection g1 with a1 a2 a3
      subst a1; subst a2; subst a3
      exact .inr ⟨c3, c2, e2, f2, k1, g2, g3.trans k3, fun i hi => (g4 i hi).trans (k4 i hi)⟩
/-- the second step touches what the first may, or new blocks -/
theorem Fr.trans' (h : Fr S w w') (h' : Fr S' w' w'') (hs : ∀ k i, k < w.heap.size → S' k i → S k i) : Fr S w w'' := by
  refine ⟨h'.os.trans h.os, h'.tape.trans h.tape, h'.output.trans h.output, Nat.le_trans h.size h'.size, fun k hk => ?_⟩
  rcases h'.blk k (Nat.lt_of_lt_of_le hk h.size) with g | ⟨c1, c2, e1, f1, g1, g2, g3, g4⟩
  · rw [g]; exact h.blk k hk
  · rcases h.blk k hk with k0 | ⟨c3, c4, e2, f2, k1, k2, k3, k4⟩
    · rw [k0] at g1; exact .inr ⟨c1, c2, e1, f1, g1, g2, g3, fun i hi => g4 i fun hS => hi (hs k i hk hS)⟩
    · rw [k2] at g1
      injection g1 with g1
      injection g1 with a1 a2 a3
      subst a1; subst a2; subst a3
      exact .inr ⟨c3, c2, e2, f2, k1, g2, g3.trans k3, fun i hi => (g4 i fun hS => hi (hs k i hk hS)).trans (k4 i hi)⟩
theorem Fr.then_below (h : Fr S w w') (hb : Below w'.heap.size w' w'') : Fr S w w'' := h.trans (Fr.of_below hb)
theorem Fr.alloc (h : Fr S w w') (o : Obj) : Fr S w (w'.alloc o) := h.then_below ((Below.refl _ _).alloc (Nat.le_refl _) o)
theorem Fr.drew (h : Fr S w w') : Fr S w w'.drew := h.then_below (Below.refl _ _).drew
theorem Fr.drewN (h : Fr S w w') (n : Nat) : Fr S w (w'.drewN n) := h.then_below (below_draws _ n)
theorem Fr.setCell (h : Fr S w w') {k i : Nat} (hS : k < w.heap.size → S k i) (u : Value) : Fr S w (w'.setCell ⟨k, i, none⟩ u) := by
  refine h.trans' (S' := fun k' i' => k' = k ∧ i' = i) ?_ (fun k' i' hk ⟨e1, e2⟩ => by subst e1; subst e2; exact hS hk)
  refine ⟨rfl, rfl, rfl, by simp [World.setCell], fun q hq => ?_⟩
  by_cases hqk : q = k
  · subst hqk
    cases ho : w'.heap[q]? with
    | none => left; simp [World.setCell, Array.getElem?_modify, ho]
    | some o =>
      cases o with
      | cells c e fr =>
        right
        refine ⟨c, c.setIfInBounds i u, e, fr, rfl, by simp [World.setCell, Array.getElem?_modify, ho], by simp, fun j hj => ?_⟩
        rw [Array.getElem?_setIfInBounds_ne (fun e => hj ⟨rfl, e.symm⟩)]
      | _ => left; simp [World.setCell, Array.getElem?_modify, ho]
  · left
    exact Below.heap_setCell w' ⟨k, i, none⟩ u q hqk
theorem Fr.of_ap {sz : Nat} {v : Value} (h : Ap w w' sz v) (hS : ∀ k i, v.ownBlock = some k → S k i) : Fr S w w' :=
  ⟨h.os, h.tape, h.output, h.size, fun k hk => by
    rcases h.block k hk with h1 | ⟨o, n, c, cur, cur', e, fr, rfl, h2, h3, h4, h5⟩
    · exact .inl h1
    · exact .inr ⟨cur, cur', e, fr, h2, h3, h4, fun i hi => absurd (hS k i rfl) hi⟩⟩
theorem Fr.block (h : Fr S w w') {k : Nat} (hk : k < w.heap.size) (hS : ∀ i, ¬ S k i) : w'.heap[k]? = w.heap[k]? := by
  rcases h.blk k hk with h1 | ⟨c, c', e, fr, h1, h2, h3, h4⟩
  · exact h1
  · have : c' = c := by
      apply Array.ext_getElem?
      intro i
      exact h4 i (hS i)
    rw [h1, h2, this]
theorem Fr.below (h : Fr S w w') {B : Nat} (hB : B ≤ w.heap.size) (hS : ∀ k i, k < B → ¬ S k i) : Below B w w' :=
  ⟨h.os, h.tape, h.output, h.size, fun k hk => h.block (Nat.lt_of_lt_of_le hk hB) (fun i => hS k i hk)⟩
theorem Fr.cell (h : Fr S w w') {k i : Nat} {v : Value} (hc : w.cell? ⟨k, i, none⟩ = some v) (hS : ¬ S k i) : w'.cell? ⟨k, i, none⟩ = some v := by
  have hk := World.block_lt_of_cell? _ _ hc
  rcases h.blk k hk with h1 | ⟨c, c', e, fr, h1, h2, h3, h4⟩
  · exact (World.cell?_of_block (a := ⟨k, i, none⟩) h1).trans hc
  · rw [cell_of_block h1] at hc
    rw [cell_of_block h2, h4 i hS, hc]
theorem Fr.frozen (h : Fr S w w') {k i : Nat} (hk : k < w.heap.size) : w'.frozen? ⟨k, i, none⟩ = w.frozen? ⟨k, i, none⟩ := by
  rcases h.blk k hk with h1 | ⟨c, c', e, fr, h1, h2, h3, h4⟩
  · exact World.frozen?_of_block (w := w) (a := ⟨k, i, none⟩) h1
  · simp only [World.frozen?, h1, h2]
theorem Fr.free (h : Fr S w w') {k i : Nat} {v : Value} (hc : w.cell? ⟨k, i, none⟩ = some v) (hf : w.frozen? ⟨k, i, none⟩ = false) : w'.frozen? ⟨k, i, none⟩ = false :=
  (h.frozen (World.block_lt_of_cell? _ _ hc)).trans hf
theorem Fr.buf (h : Fr S w w') {e : TypeId} {sz n : Nat} {v : Value} {xs : List Value} (hb : Buf w e sz v n xs) (hS : ∀ k i, v.ownBlock = some k → ¬ S k i) : Buf w' e sz v n xs := by
  obtain ⟨hl, A, c, rfl, hnc, hc, hv⟩ := hb
  refine ⟨hl, A, c, rfl, hnc, hc, fun h0 => ?_⟩
  obtain ⟨b, o, cur, fr, rfl, hbk, hs, hf, hx⟩ := hv h0
  exact ⟨b, o, cur, fr, rfl, (h.block (Array.getElem?_eq_some_iff.1 hbk).1 (fun i => hS b i rfl)).trans hbk, hs, hf, hx⟩
end

/-- two blocks whose elements are of unlike types are unlike -/
theorem Buf.ne_block {w : World} {e t : TypeId} {sz n : Nat} {v : Value} {xs : List Value} (h : Buf w e sz v n xs) {b : Nat} {cur : Array Value} {fr : Nat × Nat} (hb : w.heap[b]? = some (.cells cur t fr)) (hne : e ≠ t) (hc : 0 < n) : v.ownBlock ≠ some b := by
  obtain ⟨hl, A, c, rfl, hnc, hcm, hv⟩ := h
  obtain ⟨b', o, cur', fr', rfl, hbk, _⟩ := hv (by omega)
  intro he
  simp [Value.ownBlock] at he
  subst he
  rw [hbk] at hb
  injection hb with hb
  injection hb with _ hb _
  exact hne hb

/-- a store into a buffer of one-cell elements -/
theorem Buf.store {w : World} {e : TypeId} {n : Nat} {b o c : Nat} {xs : List Value} (h : Buf w e 1 (.slice (some ⟨b, o, none⟩) n c) n xs) {j : Nat} (_hj : j < n) (u : Value) :
    Buf (w.setCell ⟨b, o + j, none⟩ u) e 1 (.slice (some ⟨b, o, none⟩) n c) n (xs.set j u) := by
  obtain ⟨hl, A, c', hv', hnc, hc, hv⟩ := h
  injection hv' with h1 h2 h3
  subst h1; subst h3
  refine ⟨by rw [List.length_set]; exact hl, _, c, rfl, hnc, hc, fun h0 => ?_⟩
  obtain ⟨b', o', cur, fr, h4, hbk, hs, hf, hx⟩ := hv h0
  injection h4 with h4
  injection h4 with h4 h5 _
  subst h4; subst h5
  refine ⟨b, o, cur.setIfInBounds (o + j) u, fr, rfl, by simp [World.setCell, Array.getElem?_modify, hbk], by simpa using hs, hf, fun i hi => ?_⟩
  by_cases hij : i = j
  · subst hij
    have hlen : i < xs.length := by rw [hl]; exact hi
    rw [Array.getElem?_setIfInBounds_self_of_lt (by omega), List.getElem?_set_self hlen]
  · rw [Array.getElem?_setIfInBounds_ne (by omega), hx i hi, List.getElem?_set_ne (fun e => hij e.symm)]
theorem Buf.at_ {w : World} {e : TypeId} {n : Nat} {v : Value} {xs : List Value} (h : Buf w e 1 v n xs) (hn : 0 < n) : ∃ b o c, v = .slice (some ⟨b, o, none⟩) n c ∧ b < w.heap.size ∧ n ≤ c ∧ (∀ j, j < n → w.cell? ⟨b, o + j, none⟩ = xs[j]?) ∧ ∀ j, j < n → w.frozen? ⟨b, o + j, none⟩ = false := by
  obtain ⟨hl, A, c, rfl, hnc, hc, hv⟩ := h
  obtain ⟨b, o, cur, fr, rfl, hbk, hs, hf, hx⟩ := hv (by omega)
  refine ⟨b, o, c, rfl, (Array.getElem?_eq_some_iff.1 hbk).1, hnc, fun j hj => (cell_of_block hbk _).trans (hx j (by omega)), fun j hj => ?_⟩
  have := hf (o + j) (by omega) (by omega)
  have e0 : w.frozen? ⟨b, o + j, none⟩ = (decide (fr.1 ≤ o + j) && decide (o + j < fr.2)) := by simp only [World.frozen?, hbk]
  rw [e0, Bool.eq_false_iff]
  intro hh
  simp only [Bool.and_eq_true, decide_eq_true_eq] at hh
  exact this hh

/-- a chain of appends to v, which was there at W0, leaves what has been made since W0 as it was -/
theorem App.cell_new {W0 W : World} {V : Value} {e : TypeId} {sz N : Nat} {xs : List Value} {w : World} {v : Value} {m : Nat} {ys : List Value} (h : App W V e sz N xs w v m ys) (h0 : Buf W0 e sz V N xs) {k i : Nat} (h1 : W0.heap.size ≤ k) (h2 : k < W.heap.size) : w.cell? ⟨k, i, none⟩ = W.cell? ⟨k, i, none⟩ := by
  obtain ⟨hl, A, c, rfl, hnc, hc, hv⟩ := h0
  rcases h.ap.block k h2 with g | ⟨o, n, c', cur, cur', e', fr, hV, g1, g2, g3, g4⟩
  · exact World.cell?_of_block (a := ⟨k, i, none⟩) g
  · injection hV with e1 e2 e3
    subst e1; subst e2; subst e3
    rcases Nat.eq_zero_or_pos c with h0 | h0
    · subst h0
      rw [cell_of_block g2, cell_of_block g1]
      exact g4 i (by rw [show N = 0 by omega]; omega)
    · obtain ⟨b, o', cur0, fr', e4, hb, _⟩ := hv h0
      injection e4 with e4
      injection e4 with e4
      subst e4
      have := (Array.getElem?_eq_some_iff.1 hb).1
      omega
theorem BApp.cell_new {W0 W : World} {V : Value} {e : TypeId} {xs : List UInt8} {w : World} {v : Value} {ys : List UInt8} (h : BApp W V e xs w v ys) (h0 : BBuf W0 e V xs) {k i : Nat} (h1 : W0.heap.size ≤ k) (h2 : k < W.heap.size) : w.cell? ⟨k, i, none⟩ = W.cell? ⟨k, i, none⟩ := App.cell_new h h0 h1 h2
theorem BApp.after {W0 W : World} {V : Value} {e : TypeId} {xs : List UInt8} {w : World} {v : Value} {ys : List UInt8} (hb : Below W0.heap.size W0 W) (h : BApp W V e xs w v ys) (h0 : BBuf W0 e V xs) : BApp W0 V e xs w v ys := App.after hb h h0

/-- an element type, and its slices -/
structure ElemTy (P : Program) (t e : TypeId) (z : Value) (sz bytes : Nat) : Prop where
  slice : P.underlying t = some (.slice e)
  info : ∃ i, P.info? e = some i ∧ i.zero = some z ∧ i.size = sz ∧ i.bytes = bytes
  zs : z.cells.size = sz

/-- append onto a buffer, an arm of the walk -/
theorem wpList_append_el {P : Program} {ops : Array Oper} {rest : List Oper} {o : Oper} {a : Act} {Q : Exit → Act → World → Prop} {w : World} (hgd : o.guard = none) (s x : Operand) (t tx : TypeId)
    (ho : o.op = .call { callee := .builtin .append, args := #[s, x], argTypes := #[t, tx] })
    {e : TypeId} {z : Value} {sz bytes : Nat} (hT : ElemTy P t e z sz bytes)
    {v : Value} {n : Nat} {xs : List Value} (hv : a.eval s = v) (h : Buf w e sz v n xs) {y : Value} {m : Nat} {news : List Value} (hx : a.eval x = y) (hs : Src P sz tx y m news w) (h63 : n + m ≤ maxLen) (hbytes : (n + m) * bytes ≤ 140737488355328)
    (K : ∀ v' w', Buf w' e sz v' (n + m) (xs ++ news) → Ap w w' sz v → Grew w v v' → wpList P ops Q rest (a.put o.dst v') w') : wpList P ops Q (o :: rest) a w := by
  obtain ⟨i, hi, hz, h1, h2⟩ := hT.info
  exact wpList_append_buf hgd s x t tx ho i z bytes hT.slice hi hz h1 h2 hT.zs hv h hx hs h63 hbytes K

/-- a buffer as the source of an append -/
theorem Buf.src {P : Program} {w : World} {e : TypeId} {sz n : Nat} {v : Value} {xs : List Value} (h : Buf w e sz v n xs) {t e' : TypeId} (ht : P.underlying t = some (.slice e')) (h1 : ∀ u ∈ xs, u.oneCell' = true) : Src P sz t v n xs w := by
  obtain ⟨hl, A, c, rfl, hnc, hcm, hv⟩ := h
  rcases Nat.eq_zero_or_pos n with h0 | h0
  · subst h0
    obtain rfl : xs = [] := List.eq_nil_of_length_eq_zero (by simpa using hl)
    cases A with
    | none => exact Src.ofNil w ht c
    | some a => exact Src.ofSlice w ht a 0 c [] (by simp) (by intro j u hu; simp at hu) h1
  · obtain ⟨b, o, cur, fr, rfl, hbk, _, _, hx⟩ := hv (by omega)
    refine Src.ofSlice w ht ⟨b, o, none⟩ n c xs hl (fun j u hu => ?_) h1
    have hj : j < n * sz := by rw [← hl]; exact (List.getElem?_eq_some_iff.1 hu).1
    rw [addr_add, cell_of_block hbk, hx j hj, hu]
/-- a literal in a new block -/
theorem Buf.lit (w : World) (e : TypeId) (sz n : Nat) (xs : List Value) (hl : xs.length = n * sz) (hn : n ≤ maxLen) : Buf (w.alloc (.cells xs.toArray e)) e sz (.slice (some ⟨w.heap.size, 0, none⟩) n n) n xs :=
  ⟨hl, _, n, rfl, Nat.le_refl _, hn, fun _ => ⟨w.heap.size, 0, _, (0, 0), rfl, heap_alloc_new w _, by simp [hl], fun i _ _ h => absurd h.2 (by simp), fun j _ => by rw [Nat.zero_add, List.getElem?_toArray]⟩⟩
/-- append(b, literal) -/
theorem wpList_append_lit {P : Program} {ops : Array Oper} {rest : List Oper} {o : Oper} {a : Act} {Q : Exit → Act → World → Prop} {w : World} (hgd : o.guard = none) (s x : Operand) (t : TypeId)
    (ho : o.op = .call { callee := .builtin .append, args := #[s, x], argTypes := #[t, t] })
    {e : TypeId} {z : Value} {sz bytes : Nat} (hT : ElemTy P t e z sz bytes)
    {W : World} {V v : Value} {N m k : Nat} {xs ys news : List Value} (hv : a.eval s = v) (h : App W V e sz N xs w v m ys) {H : Nat} (hx : a.eval x = .slice (some ⟨H, 0, none⟩) k k) (hH : w.heap.size = H)
    (hl : news.length = k * sz) (h1 : ∀ u ∈ news, u.oneCell' = true) (h63 : N + m + k ≤ maxLen) (hbytes : (N + m + k) * bytes ≤ 140737488355328)
    (K : ∀ v' w', App W V e sz N xs w' v' (m + k) (ys ++ news) → wpList P ops Q rest (a.put o.dst v') w') : wpList P ops Q (o :: rest) a (w.alloc (.cells news.toArray e)) :=
  wpList_append_el hgd s x t t ho hT hv (h.alloc _).buf (hx.trans (by rw [hH])) ((Buf.lit w e sz k news hl (by omega)).src hT.slice h1) h63 hbytes fun v' w' hb ha hg => K v' w' ((h.alloc _).step hb ha hg)
theorem Grew.new {w : World} {v v' : Value} (h : Grew w v v') {B : Nat} (hB : B ≤ w.heap.size) (hv : ∀ k, v.ownBlock = some k → B ≤ k) : ∀ k, v'.ownBlock = some k → B ≤ k := by
  intro k hk
  rcases h with ⟨A, n, n', c, rfl, rfl, _⟩ | ⟨g, n', c', rfl, hg⟩
  · exact hv k (by cases A <;> simp_all [Value.ownBlock])
  · simp [Value.ownBlock] at hk
    omega

/-- append as a step of a region that draws its order -/
theorem step_append_app {P : Program} {ops : Array Oper} {o : Oper} {a : Act} {w : World} {K : Act → World → Prop} {Q : Exit → Act → World → Prop} {E : Prop} (hgd : o.guard = none) (s x : Operand) (t : TypeId)
    (ho : o.op = .call { callee := .builtin .append, args := #[s, x], argTypes := #[t, t] }) {e : TypeId} {z : Value} {sz bytes : Nat} (hT : ElemTy P t e z sz bytes)
    {W : World} {V v y : Value} {N m k : Nat} {xs ys news : List Value} (hv : a.eval s = v) (h : App W V e sz N xs w v m ys) (hx : a.eval x = y) (hs : Src P sz t y k news w)
    (h63 : N + m + k ≤ maxLen) (hbytes : (N + m + k) * bytes ≤ 140737488355328)
    (hK : ∀ v' w', App W V e sz N xs w' v' (m + k) (ys ++ news) → K (a.put o.dst v') w') : if Region.wanted o (yielded ops a.tmps) = true then Oper.wp P o a w K Q else E := by
  have hw : Region.wanted o (yielded ops a.tmps) = true := by simp [Region.wanted, hgd]
  rw [if_pos hw]
  obtain ⟨i, hi, hz, h1, h2⟩ := hT.info
  obtain ⟨v', w', hr, g2, g3, g4⟩ := run_append_buf (P := P) t t o.type i z bytes hT.slice hi hz h1 h2 hT.zs h.buf y k news hs h63 hbytes
  unfold Oper.wp execOp
  simp only [ho, resolve, invoke, builtin, Sem.run_bind, Sem.run_pure, Result.andThen_ok, List.map_toArray, List.map_cons, List.map_nil, hv, hx, hr]
  exact hK _ _ (h.step g2 g3 g4)
theorem Src.drew_ {P : Program} {sz : Nat} {t : TypeId} {x : Value} {m : Nat} {news : List Value} {w : World} {e : TypeId} (h : Buf w e sz x m news) (ht : P.underlying t = some (.slice e)) (h1 : ∀ u ∈ news, u.oneCell' = true) : Src P sz t x m news w.drew := h.drew.src ht h1

/-- two cells are stored -/
theorem set2 {w : World} {b : Nat} {x0 x1 : Value} (h0 : w.cell? ⟨b, 0, none⟩ = some x0) (h1 : w.cell? ⟨b, 1, none⟩ = some x1) :
    (∀ x, (w.setCell ⟨b, 0, none⟩ x).cell? ⟨b, 0, none⟩ = some x) ∧ (∀ x y, ((w.setCell ⟨b, 0, none⟩ x).setCell ⟨b, 1, none⟩ y).cell? ⟨b, 1, none⟩ = some y) :=
  ⟨fun x => World.cell?_setCell_same _ _ _ h0, fun x y => World.cell?_setCell_same _ _ _ (u := x1) (by rw [World.cell?_setCell_other _ _ _ _ (by simp)]; exact h1)⟩

/-- an empty literal -/
theorem App.lit0 (w : World) (e : TypeId) (sz : Nat) : App (w.alloc (.cells #[] e)) (.slice (some ⟨w.heap.size, 0, none⟩) 0 0) e sz 0 [] (w.alloc (.cells #[] e)) (.slice (some ⟨w.heap.size, 0, none⟩) 0 0) 0 [] :=
  App.start' (Buf.lit w e sz 0 [] (by simp) (Nat.zero_le _))
theorem App.below_lit0 {w w' : World} {e : TypeId} {sz n c m : Nat} {xs ys : List Value} {v : Value} (h : App (w.alloc (.cells #[] e)) (.slice (some ⟨w.heap.size, 0, none⟩) n c) e sz n xs w' v m ys) : Below w.heap.size w w' :=
  ((Below.refl _ _).alloc (Nat.le_refl _) _).trans (h.ap.below (by simp) (fun k hk => by simp [Value.ownBlock] at hk; omega))

end Go.Bar

/-
  Slices that are read (SlAt): own ones and those that came in; arguments that are slices of structs. Plain lemmas over any program; no condition.
-/
namespace Go.Bar
open Go.RowKit

/-- a slice of n elements, whose cells are xs -/
structure SlAt (w : World) (sz : Nat) (v : Value) (n : Nat) (xs : List Value) : Prop where
  len : xs.length = n * sz
  val : ∃ A c, v = .slice A n c ∧ n ≤ c ∧ c ≤ maxLen ∧ (0 < n * sz → ∃ b o, A = some ⟨b, o, none⟩ ∧ b < w.heap.size ∧ ∀ j, j < n * sz → w.cell? ⟨b, o + j, none⟩ = xs[j]?)

section
variable {w w' : World} {sz n : Nat} {v : Value} {xs : List Value}
theorem SlAt.below (h : SlAt w sz v n xs) (hb : Below w.heap.size w w') : SlAt w' sz v n xs := by
  obtain ⟨hl, A, c, rfl, hnc, hc, hv⟩ := h
  refine ⟨hl, A, c, rfl, hnc, hc, fun h0 => ?_⟩
  obtain ⟨b, o, rfl, hlt, hx⟩ := hv h0
  exact ⟨b, o, rfl, Nat.lt_of_lt_of_le hlt hb.size, fun j hj => (hb.cell (p := ⟨b, o + j, none⟩) hlt).trans (hx j hj)⟩
theorem SlAt.of_buf {e : TypeId} (h : Buf w e sz v n xs) : SlAt w sz v n xs := by
  obtain ⟨hl, A, c, rfl, hnc, hc, hv⟩ := h
  refine ⟨hl, A, c, rfl, hnc, hc, fun h0 => ?_⟩
  have : 0 < n := by rcases Nat.eq_zero_or_pos n with h | h; · subst h; simp at h0
                     · exact h
  obtain ⟨b, o, cur, fr, rfl, hbk, hs, hf, hx⟩ := hv (by omega)
  exact ⟨b, o, rfl, (Array.getElem?_eq_some_iff.1 hbk).1, fun j hj => (cell_of_block hbk _).trans (hx j hj)⟩
theorem SlAt.shape (h : SlAt w sz v n xs) : ∃ A c, v = .slice A n c ∧ n ≤ c ∧ c ≤ maxLen := by
  obtain ⟨_, A, c, rfl, h1, h2, _⟩ := h
  exact ⟨A, c, rfl, h1, h2⟩
theorem SlAt.cells {A : Option Addr} {c : Nat} (h : SlAt w sz (.slice A n c) n xs) (hn : 0 < n * sz) : ∃ b o, A = some ⟨b, o, none⟩ ∧ b < w.heap.size ∧ ∀ j u, xs[j]? = some u → w.cell? ⟨b, o + j, none⟩ = some u := by
  obtain ⟨hl, A', c', hv', hnc, hc, hv⟩ := h
  injection hv' with h1 h2 h3
  subst h1; subst h3
  obtain ⟨b, o, rfl, hlt, hx⟩ := hv hn
  refine ⟨b, o, rfl, hlt, fun j u hu => ?_⟩
  have hj : j < n * sz := by rw [← hl]; exact (List.getElem?_eq_some_iff.1 hu).1
  rw [hx j hj, hu]
/-- the first k elements -/
theorem SlAt.take {A : Option Addr} {c : Nat} (h : SlAt w sz (.slice A n c) n xs) (k c' : Nat) (hk : k ≤ n) (hc' : k ≤ c') (hcm : c' ≤ maxLen) : SlAt w sz (.slice A k c') k (xs.take (k * sz)) := by
  obtain ⟨hl, A', c1, hv', hnc, hc, hv⟩ := h
  injection hv' with h1 h2 h3
  subst h1; subst h3
  have hm := Nat.mul_le_mul_right sz hk
  refine ⟨by rw [List.length_take]; omega, A, c', rfl, hc', hcm, fun h0 => ?_⟩
  obtain ⟨b, o, rfl, hlt, hx⟩ := hv (by omega)
  exact ⟨b, o, rfl, hlt, fun j hj => by rw [hx j (by omega), List.getElem?_take, if_pos hj]⟩
theorem SlAt.src {P : Program} (h : SlAt w sz v n xs) (hsz : 0 < sz) {t e' : TypeId} (ht : P.underlying t = some (.slice e')) (h1 : ∀ u ∈ xs, u.oneCell' = true) : Src P sz t v n xs w := by
  obtain ⟨hl, A, c, rfl, hnc, hcm, hv⟩ := h
  rcases Nat.eq_zero_or_pos (n * sz) with h0 | h0
  · obtain rfl : xs = [] := List.eq_nil_of_length_eq_zero (by omega)
    cases A with
    | none =>
      obtain rfl : n = 0 := by
        rcases Nat.eq_zero_or_pos n with h | h
        · exact h
        · have := Nat.mul_pos h hsz; omega
      exact Src.ofNil w ht c
    | some a => exact Src.ofSlice w ht a n c [] (by simpa using hl) (by intro j u hu; simp at hu) h1
  · obtain ⟨b, o, rfl, hlt, hx⟩ := hv h0
    refine Src.ofSlice w ht ⟨b, o, none⟩ n c xs hl (fun j u hu => ?_) h1
    have hj : j < n * sz := by rw [← hl]; exact (List.getElem?_eq_some_iff.1 hu).1
    rw [addr_add, hx j hj, hu]
end

/-- elements of two cells each -/
theorem flat2 {α : Type} (f g : α → Value) : ∀ (l : List α) (i : Nat) (x : α), l[i]? = some x → (l.flatMap fun x => [f x, g x])[i * 2]? = some (f x) ∧ (l.flatMap fun x => [f x, g x])[i * 2 + 1]? = some (g x)
  | [], i, x, h => by simp at h
  | y :: l, 0, x, h => by
    simp at h; subst h; simp
  | y :: l, i + 1, x, h => by
    obtain ⟨h1, h2⟩ := flat2 f g l i x (by simpa using h)
    simp only [List.flatMap_cons, List.cons_append, List.nil_append]
    rw [show (i + 1) * 2 = i * 2 + 1 + 1 by omega]
    exact ⟨by simpa using h1, by simpa using h2⟩
theorem flat2_length {α : Type} (f g : α → Value) : ∀ (l : List α), (l.flatMap fun x => [f x, g x]).length = l.length * 2
  | [] => rfl
  | _ :: l => by
    simp only [List.flatMap_cons, List.length_append, List.length_cons, List.length_nil, flat2_length f g l]; omega
theorem flat2_take {α : Type} (f g : α → Value) : ∀ (l : List α) (k : Nat), (l.flatMap fun x => [f x, g x]).take (k * 2) = (l.take k).flatMap fun x => [f x, g x]
  | [], k => by simp
  | y :: l, 0 => by simp
  | y :: l, k + 1 => by
    have := flat2_take f g l k
    simp only [List.flatMap_cons, List.take_succ_cons, List.cons_append, List.nil_append]
    rw [show (k + 1) * 2 = k * 2 + 1 + 1 by omega, List.take_succ_cons, List.take_succ_cons, this]

theorem list_of {α : Type} (P : Nat → α → Prop) : ∀ n, (∀ i, i < n → ∃ t, P i t) → ∃ ts : List α, ts.length = n ∧ ∀ i t, ts[i]? = some t → P i t
  | 0, _ => ⟨[], rfl, by simp⟩
  | n + 1, h => by
    obtain ⟨ts, hl, ht⟩ := list_of P n (fun i hi => h i (by omega))
    obtain ⟨t, hp⟩ := h n (by omega)
    refine ⟨ts ++ [t], by simp [hl], fun i t' hi => ?_⟩
    rcases Nat.lt_or_ge i n with h1 | h1
    · rw [List.getElem?_append_left (by omega)] at hi
      exact ht i t' hi
    · rw [List.getElem?_append_right (by omega)] at hi
      rcases Nat.eq_or_lt_of_le h1 with h2 | h2
      · subst h2
        rw [hl, Nat.sub_self] at hi
        simp at hi
        subst hi
        exact hp
      · rw [List.getElem?_eq_none (by simp; omega)] at hi
        cases hi

section
open Go.ChangeShapes Go.WideShapes Go.Deep
variable {H : Type} {enc : TypeId × Value → H} {P : Program} {w : World} {base b0 : Nat} {spare : Nat → Bool} {held : Bool} {r : Reach}
/-- AN ARGUMENT THAT IS A SLICE OF STRUCTS of one-cell fields: of each element and field the cell, and its reading -/
theorem open_slice_fields {t e : TypeId} {fs : Array Field} {v : Value} {d : DataW H} {p : List MemPlace} (ht : P.underlying t = some (.slice e)) (he : P.underlying e = some (.struct fs))
    (hone : oneCellFields P fs = true) (hC : P.cellsOf e = fs.size) (hpos : 0 < fs.size) (hval : Value.okWide P w r b0 t v) (h : DataW.Trod enc P w base spare held t v d p) :
    ∃ (A : Option Addr) (n c : Nat), v = .slice A n c ∧ n ≤ c ∧ c ≤ maxLen ∧ (0 < n → ∃ b o, A = some ⟨b, o, none⟩ ∧ b < w.heap.size ∧
      ∀ i, i < n → ∀ (j : Nat) (f : Field), fs[j]? = some f → ∃ (x : Value) (y : DataW H × List MemPlace) (k : Nat), w.cell? ⟨b, o + (i * fs.size + j), none⟩ = some x ∧ DataW.trod enc P w base spare held k f.type [x] = some y) := by
  obtain ⟨A, len, cap, rfl⟩ := okWide_slice ht hval
  obtain ⟨fuel, hf⟩ := h
  rcases open_slice ht hf with ⟨hcs, _⟩ | ⟨a, len', cap', m, n, D, Pl, hcs, _, hlc, hcm, hm, _, hi⟩
  · simp [Value.cells] at hcs
    obtain ⟨rfl, rfl, rfl⟩ := hcs
    exact ⟨none, 0, 0, rfl, Nat.le_refl _, by decide, fun h => absurd h (Nat.lt_irrefl _)⟩
  · simp [Value.cells] at hcs
    obtain ⟨rfl, rfl, rfl⟩ := hcs
    refine ⟨some a, len, cap, rfl, hlc, hcm, fun h0 => ?_⟩
    obtain ⟨b, o, spot⟩ := a
    have hread : ∀ i, i < len → ∀ (j : Nat) (f : Field), fs[j]? = some f → ∃ (x : Value) (y : DataW H × List MemPlace) (k : Nat), w.cell? ((Addr.add ⟨b, o, spot⟩ (i * fs.size)).add j) = some x ∧ DataW.trod enc P w base spare held k f.type [x] = some y := by
      intro i hil j f hj
      obtain ⟨cs, hc, hr⟩ := hi i (by rw [hm]; split <;> omega)
      rw [hC] at hc
      obtain ⟨_, hcl, hat⟩ := World.cells?_some hc
      obtain ⟨ys, k, _, _, _, hyl, hg⟩ := DataW.trod_struct he hr
      obtain ⟨ho, hk⟩ := hone_of hone j f hj
      have hjl : j < fs.size := (Array.getElem?_eq_some_iff.1 hj).1
      have h1 := hg j f hj
      rw [ho, hk] at h1
      have hone' : (cs.drop j).take 1 = [cs[j]'(by omega)] := by
        rw [List.drop_eq_getElem_cons (by omega)]
        rfl
      rw [hone'] at h1
      exact ⟨_, _, k, (hat j hjl).trans (List.getElem?_eq_getElem (by omega)), h1.trans (List.getElem?_eq_getElem (by omega))⟩
    have hspot : spot = none := by
      obtain ⟨x, y, k, hat, _⟩ := hread 0 h0 0 _ (Array.getElem?_eq_getElem hpos)
      rw [Nat.zero_mul, show ((Addr.add ⟨b, o, spot⟩ 0).add 0) = (⟨b, o, spot⟩ : Addr) by simp [Addr.add]] at hat
      exact World.cell?_spot hat
    subst hspot
    have hlt : b < w.heap.size := by
      obtain ⟨x, y, k, hat, _⟩ := hread 0 h0 0 _ (Array.getElem?_eq_getElem hpos)
      rw [addr_add, addr_add] at hat
      exact World.block_lt_of_cell? _ _ hat
    refine ⟨b, o, rfl, hlt, fun i hil j f hj => ?_⟩
    obtain ⟨x, y, k, hat, hr⟩ := hread i hil j f hj
    rw [addr_add, addr_add, Nat.add_assoc] at hat
    exact ⟨x, y, k, hat, hr⟩
end

/-- a buffer is kept where another one, of another element type, grows -/
theorem Buf.keep_ap {w w' : World} {e e' : TypeId} {sz sz' n n' : Nat} {v v' : Value} {xs xs' : List Value} (h : Buf w e sz v n xs) (hb' : Buf w e' sz' v' n' xs') (ha : Ap w w' sz' v') (hne : e ≠ e') : Buf w' e sz v n xs := by
  obtain ⟨hl, A, c, rfl, hnc, hc, hv⟩ := h
  refine ⟨hl, A, c, rfl, hnc, hc, fun h0 => ?_⟩
  obtain ⟨b, o, cur, fr, rfl, hb, hs, hf, hx⟩ := hv h0
  have hlt : b < w.heap.size := (Array.getElem?_eq_some_iff.1 hb).1
  rcases ha.block b hlt with h1 | ⟨o', n1, c', cur1, cur', e1, fr', hv', hw, hw', hsz, hi⟩
  · exact ⟨b, o, cur, fr, rfl, h1.trans hb, hs, hf, hx⟩
  · obtain ⟨hl', A', c2, hv2, hnc', hc2, hv'2⟩ := hb'
    rw [hv2] at hv'
    injection hv' with a1 a2 a3
    subst a1; subst a2; subst a3
    rcases Nat.eq_zero_or_pos c2 with h00 | h00
    · subst h00
      rw [hb] at hw
      injection hw with hw
      injection hw with g1 g2 g3
      subst g1; subst g2; subst g3
      have hall : ∀ i, cur'[i]? = cur[i]? := fun i => hi i (by rw [show n' = 0 by omega]; omega)
      exact ⟨b, o, cur', fr, rfl, hw', by rw [hsz]; exact hs, hf, fun j hj => (hall _).trans (hx j hj)⟩
    · obtain ⟨b2, o2, cur2, fr2, h4, hb2, _⟩ := hv'2 h00
      injection h4 with h4
      injection h4 with h4
      subst h4
      rw [hb] at hb2
      injection hb2 with hb2
      injection hb2 with _ g2 _
      exact absurd g2 hne
/-- so is a slice that was there before, where a new one grows -/
theorem SlAt.keep_ap {w w' : World} {sz sz' n : Nat} {v v' : Value} {xs : List Value} {B : Nat} (h : SlAt w sz v n xs) (ha : Ap w w' sz' v') (hB : ∀ A c, v = .slice A n c → ∀ b o, A = some ⟨b, o, none⟩ → b < B) (hBw : B ≤ w.heap.size) (hnew : ∀ k, v'.ownBlock = some k → B ≤ k) : SlAt w' sz v n xs := by
  have hb := ha.below hBw hnew
  obtain ⟨hl, A, c, rfl, hnc, hc, hv⟩ := h
  refine ⟨hl, A, c, rfl, hnc, hc, fun h0 => ?_⟩
  obtain ⟨b, o, rfl, hlt, hx⟩ := hv h0
  exact ⟨b, o, rfl, Nat.lt_of_lt_of_le hlt ha.size, fun j hj => (hb.cell (p := ⟨b, o + j, none⟩) (hB _ _ rfl b o rfl)).trans (hx j hj)⟩

/-- a buffer of the call's own: the call began at w -/
structure NBuf (w wr : World) (e : TypeId) (sz : Nat) (v : Value) (n : Nat) (xs : List Value) : Prop where
  buf : Buf wr e sz v n xs
  below : Below w.heap.size w wr
  new : ∀ k, v.ownBlock = some k → w.heap.size ≤ k
section
variable {w wr w' : World} {e e' : TypeId} {sz sz' n n' : Nat} {v v' : Value} {xs xs' : List Value}
theorem NBuf.nil (h : Below w.heap.size w wr) (e : TypeId) (sz : Nat) : NBuf w wr e sz (.slice none 0 0) 0 [] := ⟨Buf.nil _ _ _, h, by simp [Value.ownBlock]⟩
theorem NBuf.lit0 (h : Below w.heap.size w wr) (e : TypeId) (sz : Nat) : NBuf w (wr.alloc (.cells #[] e)) e sz (.slice (some ⟨wr.heap.size, 0, none⟩) 0 0) 0 [] :=
  ⟨Buf.lit wr e sz 0 [] (by simp) (Nat.zero_le _), h.alloc h.size _, by intro k hk; simp [Value.ownBlock] at hk; have := h.size; omega⟩
theorem NBuf.then_below (h : NBuf w wr e sz v n xs) (hb : Below wr.heap.size wr w') : NBuf w w' e sz v n xs := ⟨h.buf.below hb, below_trans h.below hb, h.new⟩
theorem NBuf.alloc (h : NBuf w wr e sz v n xs) (o : Obj) : NBuf w (wr.alloc o) e sz v n xs := h.then_below ((Below.refl _ _).alloc (Nat.le_refl _) o)
theorem NBuf.drew (h : NBuf w wr e sz v n xs) : NBuf w wr.drew e sz v n xs := h.then_below (Below.refl _ _).drew
theorem NBuf.drewN (h : NBuf w wr e sz v n xs) (k : Nat) : NBuf w (wr.drewN k) e sz v n xs := h.then_below (below_draws _ k)
theorem NBuf.step (h : NBuf w wr e sz v n xs) (hb : Buf w' e' sz' v' n' xs') (ha : Ap wr w' sz v) (hg : Grew wr v v') : NBuf w w' e' sz' v' n' xs' :=
  ⟨hb, h.below.trans (ha.below h.below.size h.new), hg.new h.below.size h.new⟩
theorem NBuf.keep (h : NBuf w wr e sz v n xs) (h' : NBuf w wr e' sz' v' n' xs') (ha : Ap wr w' sz' v') (hne : e ≠ e') : NBuf w w' e sz v n xs :=
  ⟨h.buf.keep_ap h'.buf ha hne, h.below.trans (ha.below h'.below.size h'.new), h.new⟩
theorem NBuf.slice (h : NBuf w wr e sz v n xs) : SlAt wr sz v n xs := SlAt.of_buf h.buf
theorem NBuf.after {w0 : World} (h : NBuf w wr e sz v n xs) (hb : Below w0.heap.size w0 w) : NBuf w0 wr e sz v n xs := ⟨h.buf, below_trans hb h.below, fun k hk => Nat.le_trans hb.size (h.new k hk)⟩
end

/-- append(b, literal), b of the call's own -/
theorem wpList_append_nlit {P : Program} {ops : Array Oper} {rest : List Oper} {o : Oper} {a : Act} {Q : Exit → Act → World → Prop} {w : World} (hgd : o.guard = none) (s x : Operand) (t : TypeId)
    (ho : o.op = .call { callee := .builtin .append, args := #[s, x], argTypes := #[t, t] })
    {e : TypeId} {z : Value} {sz bytes : Nat} (hT : ElemTy P t e z sz bytes)
    {W : World} {v : Value} {m k : Nat} {ys news : List Value} (hv : a.eval s = v) (h : NBuf W w e sz v m ys) {H : Nat} (hx : a.eval x = .slice (some ⟨H, 0, none⟩) k k) (hH : w.heap.size = H)
    (hl : news.length = k * sz) (h1 : ∀ u ∈ news, u.oneCell' = true) (h63 : m + k ≤ maxLen) (hbytes : (m + k) * bytes ≤ 140737488355328)
    (K : ∀ v' w', NBuf W w' e sz v' (m + k) (ys ++ news) → Ap (w.alloc (.cells news.toArray e)) w' sz v → wpList P ops Q rest (a.put o.dst v') w') : wpList P ops Q (o :: rest) a (w.alloc (.cells news.toArray e)) :=
  wpList_append_el hgd s x t t ho hT hv (h.alloc _).buf (hx.trans (by rw [hH])) ((Buf.lit w e sz k news hl (by omega)).src hT.slice h1) h63 hbytes fun v' w' hb ha hg => K v' w' ((h.alloc _).step hb ha hg) ha

/-- parts of a text -/
theorem slice_ft {P : Program} {t : TypeId} (h : P.underlying t = some .string) (l : List UInt8) (p q : Nat) (hpq : p ≤ q) (hq : q ≤ l.length) (w : World) :
    (Instr.slice t (.string (bs l)) (some (.int .i64 (p : Int))) (some (.int .i64 (q : Int))) none).run P w = .ok (.string (bs ((l.drop p).take (q - p)))) w := by
  rw [← bs_extract]
  have e1 : (bs l).size = l.length := rfl
  simp [Instr.slice, run_underlying h, Instr.sliceBounds, Instr.sliceBound, asIntOf, e1]
  rw [if_pos hq]
  simp
  intro hh
  exact absurd hh (by omega)
theorem slice_to {P : Program} {t : TypeId} (h : P.underlying t = some .string) (l : List UInt8) (q : Nat) (hq : q ≤ l.length) (w : World) :
    (Instr.slice t (.string (bs l)) none (some (.int .i64 (q : Int))) none).run P w = .ok (.string (bs (l.take q))) w := by
  have e := bs_extract l 0 q
  rw [List.drop_zero, Nat.sub_zero] at e
  rw [← e]
  have e1 : (bs l).size = l.length := rfl
  simp [Instr.slice, run_underlying h, Instr.sliceBounds, Instr.sliceBound, asIntOf, e1]
  intro hh
  exact absurd hh (by omega)
theorem slice_from {P : Program} {t : TypeId} (h : P.underlying t = some .string) (l : List UInt8) (p : Nat) (hp : p ≤ l.length) (w : World) :
    (Instr.slice t (.string (bs l)) (some (.int .i64 (p : Int))) none none).run P w = .ok (.string (bs (l.drop p))) w := by
  have e := bs_extract l p l.length
  rw [List.take_of_length_le (by rw [List.length_drop]; omega)] at e
  rw [← e]
  have e1 : (bs l).size = l.length := rfl
  simp [Instr.slice, run_underlying h, Instr.sliceBounds, Instr.sliceBound, asIntOf, e1]
  intro hh
  exact absurd hh (by omega)

/-- string(b), of a slice that is read -/
theorem SlAt.string {P : Program} {w : World} {t e : TypeId} {v : Value} {l : List UInt8} (hT : ByteTy P t e) (h : SlAt w 1 v l.length (bcs l)) : ∀ dst, P.underlying dst = some .string → (convert t dst v).run P w = .ok (.string (bs l)) w := by
  intro dst hd
  obtain ⟨A, c, rfl, hle, hcm⟩ := h.shape
  rcases Nat.eq_zero_or_pos l.length with h0 | h0
  · obtain rfl : l = [] := List.eq_nil_of_length_eq_zero h0
    cases A with
    | none => exact run_convert_bytes_nil w t e hT.slice hT.byte _ _ dst hd
    | some a =>
      rw [run_convert_bytes_string w t dst e _ _ _ hT.slice hT.byte hd]
      simp [Conv.bytesToString, loadCells, loadCellsFrom, bs]
      rfl
  · obtain ⟨b, o, rfl, _, hc⟩ := SlAt.cells h (by omega)
    have := run_convert_bytes_arg (P := P) w t e hT.slice hT.byte b o l.length c (l.map fun b => (b.toNat : Int)) (by simp) (fun i hi => by
      rw [hc i (.int .u8 (l[i].toNat : Int)) (by simp [bcs, List.getElem?_eq_getElem hi])]
      simp [List.getElem?_eq_getElem hi]) dst hd
    rw [this, strOfNums_bs]

theorem Buf.cellAt {w : World} {e : TypeId} {n b o c : Nat} {xs : List Value} (h : Buf w e 1 (.slice (some ⟨b, o, none⟩) n c) n xs) {j : Nat} (hj : j < n) : w.cell? ⟨b, o + j, none⟩ = xs[j]? ∧ w.frozen? ⟨b, o + j, none⟩ = false := by
  obtain ⟨b', o', c', he, _, _, h1, h2⟩ := Buf.at_ h (by omega)
  injection he with e1 e2 e3
  injection e1 with e1
  injection e1 with e1 e4 _
  subst e1; subst e4
  exact ⟨h1 j hj, h2 j hj⟩

end Go.Bar
