/-
  Layer 14: the plain theory of a stable sort by merging in place: rows as functions, exchanges, rotations; no program in sight; no condition.
-/
import Derived.Test.YtgabmfibfikdbaaGreatDoorZLib1
import Derived.ProofKit
import Derived.OpenShut
import Derived.ShutString
import Derived.SizedLaws

namespace Go.Bar.Mrg
open Go.RowKit Go.Bar

section
variable {α : Type}
/-- a row of n elements -/
def row (n : Nat) (f : Nat → α) : List α := (List.range n).map f

/-- g is f with the elements from a on, below b, in another order -/
def PermOn (a b : Nat) (f g : Nat → α) : Prop := ∃ s t : Nat → Nat, (∀ k, s (t k) = k ∧ t (s k) = k) ∧ (∀ k, ¬ (a ≤ k ∧ k < b) → s k = k) ∧ g = fun k => f (s k)
theorem PermOn.refl (a b : Nat) (f : Nat → α) : PermOn a b f f := ⟨id, id, fun _ => ⟨rfl, rfl⟩, fun _ _ => rfl, rfl⟩
theorem PermOn.trans {a b : Nat} {f g h : Nat → α} (h1 : PermOn a b f g) (h2 : PermOn a b g h) : PermOn a b f h := by
  obtain ⟨s, t, p, q, rfl⟩ := h1
  obtain ⟨s', t', p', q', rfl⟩ := h2
  refine ⟨fun k => s (s' k), fun k => t' (t k), fun k => ⟨by show s (s' (t' (t k))) = k; rw [(p' _).1, (p _).1], by show t' (t (s (s' k))) = k; rw [(p _).2, (p' _).2]⟩, fun k hk => by show s (s' k) = k; rw [q' k hk, q k hk], rfl⟩
theorem PermOn.mono {a b a' b' : Nat} {f g : Nat → α} (h : PermOn a b f g) (h1 : a' ≤ a) (h2 : b ≤ b') : PermOn a' b' f g := by
  obtain ⟨s, t, p, q, e⟩ := h
  exact ⟨s, t, p, fun k hk => q k (by omega), e⟩
theorem PermOn.out {a b : Nat} {f g : Nat → α} (h : PermOn a b f g) {k : Nat} (hk : ¬ (a ≤ k ∧ k < b)) : g k = f k := by
  obtain ⟨s, t, p, q, rfl⟩ := h
  show f (s k) = f k
  rw [q k hk]
theorem perm_in {a b : Nat} {s t : Nat → Nat} (p : ∀ k, s (t k) = k ∧ t (s k) = k) (q : ∀ k, ¬ (a ≤ k ∧ k < b) → s k = k) {k : Nat} (hk : a ≤ k ∧ k < b) : a ≤ s k ∧ s k < b := by
  by_cases h : a ≤ s k ∧ s k < b
  · exact h
  · have h1 := q (s k) h
    have h2 := congrArg t h1
    rw [(p _).2, (p _).2] at h2
    rw [h2] at h
    exact absurd hk h
/-- what holds of all holds still -/
theorem PermOn.all {a b : Nat} {f g : Nat → α} (h : PermOn a b f g) {P : α → Prop} (hP : ∀ k, a ≤ k → k < b → P (f k)) : ∀ k, a ≤ k → k < b → P (g k) := by
  obtain ⟨s, t, p, q, rfl⟩ := h
  intro k h1 h2
  have := perm_in p q ⟨h1, h2⟩
  exact hP _ this.1 this.2
def rs (a m b k : Nat) : Nat := if a ≤ k ∧ k < b then (if k < a + (b - m) then k - a + m else k - (b - m)) else k

variable {lt : α → α → Prop}
/-- rising from a on, below b -/
def Sor (lt : α → α → Prop) (a b : Nat) (f : Nat → α) : Prop := ∀ i j, a ≤ i → i < j → j < b → lt (f i) (f j)
theorem Sor.mono {a b a' b' : Nat} {f : Nat → α} (h : Sor lt a b f) (h1 : a ≤ a') (h2 : b' ≤ b) : Sor lt a' b' f := fun i j hi hij hj => h i j (by omega) hij (by omega)
theorem Sor.congr {a b : Nat} {f g : Nat → α} (h : Sor lt a b f) (he : ∀ k, a ≤ k → k < b → g k = f k) : Sor lt a b g := fun i j hi hij hj => by
  rw [he i hi (by omega), he j (by omega) hj]
  exact h i j hi hij hj
end
end Go.Bar.Mrg

/-
  The frame of a law: the call returned true and nothing that was there has turned, so the row's post holds. Plain lemmas over any program; no condition.
-/
namespace Go.Bar
open Go.RowKit Go.ChangeShapes Go.WideShapes Go.ChangeAt

section
variable {H : Type} {enc : TypeId × Value → H} {P : Program}

theorem trodAll_below (hl : laidOutB P = true) {W W' : World} (hb : Below W.heap.size W W') : ∀ (ts : List TypeId) (vs : List Value) (ds : List (DataW H)) (p : List MemPlace), (∀ t ∈ ts, P.readableRec t = true ∧ t < P.types.size) → (∀ x ∈ p, x.block < W.heap.size) →
    DataW.TrodAll enc P W 0 (fun _ => true) true ts vs ds p → DataW.TrodAll enc P W' 0 (fun b => decide (b < W.heap.size)) true ts vs ds p
  | [], [], [], _, _, _, h => h
  | t :: ts, v :: vs, d :: ds, p, ht, hp, h => by
    obtain ⟨p1, q1, h1, h2, rfl⟩ := h
    exact ⟨p1, q1, Below.trod hl (ht t (by simp)).1 (ht t (by simp)).2 h1 hb (fun x hx => hp x (by simp [hx])), trodAll_below hl hb ts vs ds q1 (fun t' h' => ht t' (by simp [h'])) (fun x hx => hp x (by simp [hx])) h2, rfl⟩
  | [], _ :: _, _, _, _, _, h => by cases h
  | [], [], _ :: _, _, _, _, h => by cases h
  | _ :: _, [], _, _, _, _, h => by cases h
  | _ :: _, _ :: _, [], _, _, _, h => by cases h

/-- THE POST OF A LAW -/
theorem law_post {f : Func} {s : ChangeSpec} {apart : Bool} {W W' : World} {args : Array Value} {ds gs : List (DataW H)} {before : List MemPlace} (hl : laidOutB P = true)
    (hread : ∀ t ∈ f.params.toList, P.readableRec t = true ∧ t < P.types.size) {tb : TypeId} (hres : f.resultTypes = #[tb]) (htb : P.underlying tb = some .bool) (hv : s.vars = [])
    (hspec : s.fn H (ds ++ gs) = { results := [.lit (.bool true)], args := ds }) (hW : DataW.Whole enc P f.params.toList s.vars apart W args.toList ds gs before) (hb : Below W.heap.size W W') :
    s.post enc P f apart true false false W args (.bool true) W' := by
  have hW' := hW
  obtain ⟨p, q, hA, hV, rfl, _, _⟩ := hW
  rw [hv] at hV
  obtain ⟨rfl, rfl⟩ := trodVars_none hV
  have hlt : ∀ x ∈ p, x.block < W.heap.size := fun x hx => hW'.lt x (by simp [hx])
  refine ⟨ds, [], p ++ [], [], p, [], hW', ?_, ?_, ?_, hb.frame _, fun h => by cases h⟩
  · rw [hspec, hres]
    exact trodAll_mk1 (shut_bool htb true)
  · rw [hspec]
    exact trodAll_below hl hb _ _ _ _ hread hlt hA
  · rw [hv, hspec]
    rfl
end

theorem bounds_u64 {n : Int} (h : (Lit.int .u64 n).wf = true) : 0 ≤ n ∧ n < 18446744073709551616 := by
  simp [Lit.wf, IntKind.min, IntKind.max, IntKind.signed, IntKind.bits] at h; omega
theorem bounds_i64 {n : Int} (h : (Lit.int .i64 n).wf = true) : -9223372036854775808 ≤ n ∧ n ≤ 9223372036854775807 := by
  simp [Lit.wf, IntKind.min, IntKind.max, IntKind.signed, IntKind.bits] at h; omega
theorem bounds_u8 {n : Int} (h : (Lit.int .u8 n).wf = true) : 0 ≤ n ∧ n < 256 := by
  simp [Lit.wf, IntKind.min, IntKind.max, IntKind.signed, IntKind.bits] at h; omega

end Go.Bar

/-
  Frames: which cells may have turned (Fr); buffers and cells under them; a store into a buffer. Plain lemmas over any program; no condition.
-/
namespace Go.Bar
open Go.RowKit

/-- w' is w, but for the cells in S and new blocks -/
structure Fr (S : Nat → Nat → Prop) (w w' : World) : Prop where
  os : w'.os = w.os
  tape : w'.tape = w.tape
  output : w'.output = w.output
  size : w.heap.size ≤ w'.heap.size
  blk : ∀ k, k < w.heap.size → w'.heap[k]? = w.heap[k]? ∨ ∃ cur cur' e fr, w.heap[k]? = some (.cells cur e fr) ∧ w'.heap[k]? = some (.cells cur' e fr) ∧ cur'.size = cur.size ∧ ∀ i, ¬ S k i → cur'[i]? = cur[i]?

section
variable {S S' : Nat → Nat → Prop} {w w' w'' : World}

theorem Fr.refl (S : Nat → Nat → Prop) (w : World) : Fr S w w := ⟨rfl, rfl, rfl, Nat.le_refl _, fun _ _ => .inl rfl⟩
theorem Fr.of_below (h : Below w.heap.size w w') : Fr S w w' := ⟨h.os, h.tape, h.output, h.size, fun k hk => .inl (h.block k hk)⟩
theorem Fr.mono (h : Fr S w w') (hs : ∀ k i, k < w.heap.size → S k i → S' k i) : Fr S' w w' :=
  ⟨h.os, h.tape, h.output, h.size, fun k hk => (h.blk k hk).imp id fun ⟨cur, cur', e, fr, h1, h2, h3, h4⟩ => ⟨cur, cur', e, fr, h1, h2, h3, fun i hi => h4 i fun hS => hi (hs k i hk hS)⟩⟩
theorem Fr.trans (h : Fr S w w') (h' : Fr S w' w'') : Fr S w w'' := by
  refine ⟨h'.os.trans h.os, h'.tape.trans h.tape, h'.output.trans h.output, Nat.le_trans h.size h'.size, fun k hk => ?_⟩
  rcases h'.blk k (Nat.lt_of_lt_of_le hk h.size) with g | ⟨c1, c2, e1, f1, g1, g2, g3, g4⟩
  · rw [g]; exact h.blk k hk
  · rcases h.blk k hk with k0 | ⟨c3, c4, e2, f2, k1, k2, k3, k4⟩
    · rw [k0] at g1; exact .inr ⟨c1, c2, e1, f1, g1, g2, g3, g4⟩
    · rw [k2] at g1
      injection g1 with g1
      injection g1 with a1 a2 a3
      subst a1; subst a2; subst a3
      exact .inr ⟨c3, c2, e2, f2, k1, g2, g3.trans k3, fun i hi => (g4 i hi).trans (k4 i hi)⟩
/-- the second step touches what the first may, or new blocks -/
theorem Fr.trans' (h : Fr S w w') (h' : Fr S' w' w'') (hs : ∀ k i, k < w.heap.size → S' k i → S k i) : Fr S w w'' := by
  refine ⟨h'.os.trans h.os, h'.tape.trans h.tape, h'.output.trans h.output, Nat.le_trans h.size h'.size, fun k hk => ?_⟩
  rcases h'.blk k (Nat.lt_of_lt_of_le hk h.size) with g | ⟨c1, c2, e1, f1, g1, g2, g3, g4⟩
  · rw [g]; exact h.blk k hk
  · rcases h.blk k hk with k0 | ⟨c3, c4, e2, f2, k1, k2, k3, k4⟩
    · rw [k0] at g1; exact .inr ⟨c1, c2, e1, f1, g1, g2, g3, fun i hi => g4 i fun hS => hi (hs k i hk hS)⟩
    · rw [k2] at g1
      injection g1 with g1
      injection g1 with a1 a2 a3
      subst a1; subst a2; subst a3
      exact .inr ⟨c3, c2, e2, f2, k1, g2, g3.trans k3, fun i hi => (g4 i fun hS => hi (hs k i hk hS)).trans (k4 i hi)⟩
theorem Fr.then_below (h : Fr S w w') (hb : Below w'.heap.size w' w'') : Fr S w w'' := h.trans (Fr.of_below hb)
theorem Fr.alloc (h : Fr S w w') (o : Obj) : Fr S w (w'.alloc o) := h.then_below ((Below.refl _ _).alloc (Nat.le_refl _) o)
theorem Fr.drew (h : Fr S w w') : Fr S w w'.drew := h.then_below (Below.refl _ _).drew
theorem Fr.drewN (h : Fr S w w') (n : Nat) : Fr S w (w'.drewN n) := h.then_below (below_draws _ n)
theorem Fr.setCell (h : Fr S w w') {k i : Nat} (hS : k < w.heap.size → S k i) (u : Value) : Fr S w (w'.setCell ⟨k, i, none⟩ u) := by
  refine h.trans' (S' := fun k' i' => k' = k ∧ i' = i) ?_ (fun k' i' hk ⟨e1, e2⟩ => by subst e1; subst e2; exact hS hk)
  refine ⟨rfl, rfl, rfl, by simp [World.setCell], fun q hq => ?_⟩
  by_cases hqk : q = k
  · subst hqk
    cases ho : w'.heap[q]? with
    | none => left; simp [World.setCell, Array.getElem?_modify, ho]
    | some o =>
      cases o with
      | cells c e fr =>
        right
        refine ⟨c, c.setIfInBounds i u, e, fr, rfl, by simp [World.setCell, Array.getElem?_modify, ho], by simp, fun j hj => ?_⟩
        rw [Array.getElem?_setIfInBounds_ne (fun e => hj ⟨rfl, e.symm⟩)]
      | _ => left; simp [World.setCell, Array.getElem?_modify, ho]
  · left
    exact Below.heap_setCell w' ⟨k, i, none⟩ u q hqk
theorem Fr.of_ap {sz : Nat} {v : Value} (h : Ap w w' sz v) (hS : ∀ k i, v.ownBlock = some k → S k i) : Fr S w w' :=
  ⟨h.os, h.tape, h.output, h.size, fun k hk => by
    rcases h.block k hk with h1 | ⟨o, n, c, cur, cur', e, fr, rfl, h2, h3, h4, h5⟩
    · exact .inl h1
    · exact .inr ⟨cur, cur', e, fr, h2, h3, h4, fun i hi => absurd (hS k i rfl) hi⟩⟩
theorem Fr.block (h : Fr S w w') {k : Nat} (hk : k < w.heap.size) (hS : ∀ i, ¬ S k i) : w'.heap[k]? = w.heap[k]? := by
  rcases h.blk k hk with h1 | ⟨c, c', e, fr, h1, h2, h3, h4⟩
  · exact h1
  · have : c' = c := by
      apply Array.ext_getElem?
      intro i
      exact h4 i (hS i)
    rw [h1, h2, this]
theorem Fr.below (h : Fr S w w') {B : Nat} (hB : B ≤ w.heap.size) (hS : ∀ k i, k < B → ¬ S k i) : Below B w w' :=
  ⟨h.os, h.tape, h.output, h.size, fun k hk => h.block (Nat.lt_of_lt_of_le hk hB) (fun i => hS k i hk)⟩
theorem Fr.cell (h : Fr S w w') {k i : Nat} {v : Value} (hc : w.cell? ⟨k, i, none⟩ = some v) (hS : ¬ S k i) : w'.cell? ⟨k, i, none⟩ = some v := by
  have hk := World.block_lt_of_cell? _ _ hc
  rcases h.blk k hk with h1 | ⟨c, c', e, fr, h1, h2, h3, h4⟩
  · exact (World.cell?_of_block (a := ⟨k, i, none⟩) h1).trans hc
  · rw [cell_of_block h1] at hc
    rw [cell_of_block h2, h4 i hS, hc]
theorem Fr.frozen (h : Fr S w w') {k i : Nat} (hk : k < w.heap.size) : w'.frozen? ⟨k, i, none⟩ = w.frozen? ⟨k, i, none⟩ := by
  rcases h.blk k hk with h1 | ⟨c, c', e, fr, h1, h2, h3, h4⟩
  · exact World.frozen?_of_block (w := w) (a := ⟨k, i, none⟩) h1
  · simp only [World.frozen?, h1, h2]
theorem Fr.free (h : Fr S w w') {k i : Nat} {v : Value} (hc : w.cell? ⟨k, i, none⟩ = some v) (hf : w.frozen? ⟨k, i, none⟩ = false) : w'.frozen? ⟨k, i, none⟩ = false :=
  (h.frozen (World.block_lt_of_cell? _ _ hc)).trans hf
theorem Fr.buf (h : Fr S w w') {e : TypeId} {sz n : Nat} {v : Value} {xs : List Value} (hb : Buf w e sz v n xs) (hS : ∀ k i, v.ownBlock = some k → ¬ S k i) : Buf w' e sz v n xs := by
  obtain ⟨hl, A, c, rfl, hnc, hc, hv⟩ := hb
  refine ⟨hl, A, c, rfl, hnc, hc, fun h0 => ?_⟩
  obtain ⟨b, o, cur, fr, rfl, hbk, hs, hf, hx⟩ := hv h0
  exact ⟨b, o, cur, fr, rfl, (h.block (Array.getElem?_eq_some_iff.1 hbk).1 (fun i => hS b i rfl)).trans hbk, hs, hf, hx⟩
end

/-- a store into a buffer of one-cell elements -/
theorem Buf.store {w : World} {e : TypeId} {n : Nat} {b o c : Nat} {xs : List Value} (h : Buf w e 1 (.slice (some ⟨b, o, none⟩) n c) n xs) {j : Nat} (_hj : j < n) (u : Value) :
    Buf (w.setCell ⟨b, o + j, none⟩ u) e 1 (.slice (some ⟨b, o, none⟩) n c) n (xs.set j u) := by
  obtain ⟨hl, A, c', hv', hnc, hc, hv⟩ := h
  injection hv' with h1 h2 h3
  subst h1; subst h3
  refine ⟨by rw [List.length_set]; exact hl, _, c, rfl, hnc, hc, fun h0 => ?_⟩
  obtain ⟨b', o', cur, fr, h4, hbk, hs, hf, hx⟩ := hv h0
  injection h4 with h4
  injection h4 with h4 h5 _
  subst h4; subst h5
  refine ⟨b, o, cur.setIfInBounds (o + j) u, fr, rfl, by simp [World.setCell, Array.getElem?_modify, hbk], by simpa using hs, hf, fun i hi => ?_⟩
  by_cases hij : i = j
  · subst hij
    have hlen : i < xs.length := by rw [hl]; exact hi
    rw [Array.getElem?_setIfInBounds_self_of_lt (by omega), List.getElem?_set_self hlen]
  · rw [Array.getElem?_setIfInBounds_ne (by omega), hx i hi, List.getElem?_set_ne (fun e => hij e.symm)]
theorem Buf.at_ {w : World} {e : TypeId} {n : Nat} {v : Value} {xs : List Value} (h : Buf w e 1 v n xs) (hn : 0 < n) : ∃ b o c, v = .slice (some ⟨b, o, none⟩) n c ∧ b < w.heap.size ∧ n ≤ c ∧ (∀ j, j < n → w.cell? ⟨b, o + j, none⟩ = xs[j]?) ∧ ∀ j, j < n → w.frozen? ⟨b, o + j, none⟩ = false := by
  obtain ⟨hl, A, c, rfl, hnc, hc, hv⟩ := h
  obtain ⟨b, o, cur, fr, rfl, hbk, hs, hf, hx⟩ := hv (by omega)
  refine ⟨b, o, c, rfl, (Array.getElem?_eq_some_iff.1 hbk).1, hnc, fun j hj => (cell_of_block hbk _).trans (hx j (by omega)), fun j hj => ?_⟩
  have := hf (o + j) (by omega) (by omega)
  have e0 : w.frozen? ⟨b, o + j, none⟩ = (decide (fr.1 ≤ o + j) && decide (o + j < fr.2)) := by simp only [World.frozen?, hbk]
  rw [e0, Bool.eq_false_iff]
  intro hh
  simp only [Bool.and_eq_true, decide_eq_true_eq] at hh
  exact this hh

/-- a chain of appends to v, which was there at W0, leaves what has been made since W0 as it was -/
theorem App.cell_new {W0 W : World} {V : Value} {e : TypeId} {sz N : Nat} {xs : List Value} {w : World} {v : Value} {m : Nat} {ys : List Value} (h : App W V e sz N xs w v m ys) (h0 : Buf W0 e sz V N xs) {k i : Nat} (h1 : W0.heap.size ≤ k) (h2 : k < W.heap.size) : w.cell? ⟨k, i, none⟩ = W.cell? ⟨k, i, none⟩ := by
  obtain ⟨hl, A, c, rfl, hnc, hc, hv⟩ := h0
  rcases h.ap.block k h2 with g | ⟨o, n, c', cur, cur', e', fr, hV, g1, g2, g3, g4⟩
  · exact World.cell?_of_block (a := ⟨k, i, none⟩) g
  · injection hV with e1 e2 e3
    subst e1; subst e2; subst e3
    rcases Nat.eq_zero_or_pos c with h0 | h0
    · subst h0
      rw [cell_of_block g2, cell_of_block g1]
      exact g4 i (by rw [show N = 0 by omega]; omega)
    · obtain ⟨b, o', cur0, fr', e4, hb, _⟩ := hv h0
      injection e4 with e4
      injection e4 with e4
      subst e4
      have := (Array.getElem?_eq_some_iff.1 hb).1
      omega
theorem BApp.cell_new {W0 W : World} {V : Value} {e : TypeId} {xs : List UInt8} {w : World} {v : Value} {ys : List UInt8} (h : BApp W V e xs w v ys) (h0 : BBuf W0 e V xs) {k i : Nat} (h1 : W0.heap.size ≤ k) (h2 : k < W.heap.size) : w.cell? ⟨k, i, none⟩ = W.cell? ⟨k, i, none⟩ := App.cell_new h h0 h1 h2
theorem BApp.after {W0 W : World} {V : Value} {e : TypeId} {xs : List UInt8} {w : World} {v : Value} {ys : List UInt8} (hb : Below W0.heap.size W0 W) (h : BApp W V e xs w v ys) (h0 : BBuf W0 e V xs) : BApp W0 V e xs w v ys := App.after hb h h0

/-- an element type, and its slices -/
structure ElemTy (P : Program) (t e : TypeId) (z : Value) (sz bytes : Nat) : Prop where
  slice : P.underlying t = some (.slice e)
  info : ∃ i, P.info? e = some i ∧ i.zero = some z ∧ i.size = sz ∧ i.bytes = bytes
  zs : z.cells.size = sz

/-- append onto a buffer, an arm of the walk -/
theorem wpList_append_el {P : Program} {ops : Array Oper} {rest : List Oper} {o : Oper} {a : Act} {Q : Exit → Act → World → Prop} {w : World} (hgd : o.guard = none) (s x : Operand) (t tx : TypeId)
    (ho : o.op = .call { callee := .builtin .append, args := #[s, x], argTypes := #[t, tx] })
    {e : TypeId} {z : Value} {sz bytes : Nat} (hT : ElemTy P t e z sz bytes)
    {v : Value} {n : Nat} {xs : List Value} (hv : a.eval s = v) (h : Buf w e sz v n xs) {y : Value} {m : Nat} {news : List Value} (hx : a.eval x = y) (hs : Src P sz tx y m news w) (h63 : n + m ≤ maxLen) (hbytes : (n + m) * bytes ≤ 140737488355328)
    (K : ∀ v' w', Buf w' e sz v' (n + m) (xs ++ news) → Ap w w' sz v → Grew w v v' → wpList P ops Q rest (a.put o.dst v') w') : wpList P ops Q (o :: rest) a w := by
  obtain ⟨i, hi, hz, h1, h2⟩ := hT.info
  exact wpList_append_buf hgd s x t tx ho i z bytes hT.slice hi hz h1 h2 hT.zs hv h hx hs h63 hbytes K

/-- a buffer as the source of an append -/
theorem Buf.src {P : Program} {w : World} {e : TypeId} {sz n : Nat} {v : Value} {xs : List Value} (h : Buf w e sz v n xs) {t e' : TypeId} (ht : P.underlying t = some (.slice e')) (h1 : ∀ u ∈ xs, u.oneCell' = true) : Src P sz t v n xs w := by
  obtain ⟨hl, A, c, rfl, hnc, hcm, hv⟩ := h
  rcases Nat.eq_zero_or_pos n with h0 | h0
  · subst h0
    obtain rfl : xs = [] := List.eq_nil_of_length_eq_zero (by simpa using hl)
    cases A with
    | none => exact Src.ofNil w ht c
    | some a => exact Src.ofSlice w ht a 0 c [] (by simp) (by intro j u hu; simp at hu) h1
  · obtain ⟨b, o, cur, fr, rfl, hbk, _, _, hx⟩ := hv (by omega)
    refine Src.ofSlice w ht ⟨b, o, none⟩ n c xs hl (fun j u hu => ?_) h1
    have hj : j < n * sz := by rw [← hl]; exact (List.getElem?_eq_some_iff.1 hu).1
    rw [addr_add, cell_of_block hbk, hx j hj, hu]
/-- a literal in a new block -/
theorem Buf.lit (w : World) (e : TypeId) (sz n : Nat) (xs : List Value) (hl : xs.length = n * sz) (hn : n ≤ maxLen) : Buf (w.alloc (.cells xs.toArray e)) e sz (.slice (some ⟨w.heap.size, 0, none⟩) n n) n xs :=
  ⟨hl, _, n, rfl, Nat.le_refl _, hn, fun _ => ⟨w.heap.size, 0, _, (0, 0), rfl, heap_alloc_new w _, by simp [hl], fun i _ _ h => absurd h.2 (by simp), fun j _ => by rw [Nat.zero_add, List.getElem?_toArray]⟩⟩
/-- append(b, literal) -/
theorem wpList_append_lit {P : Program} {ops : Array Oper} {rest : List Oper} {o : Oper} {a : Act} {Q : Exit → Act → World → Prop} {w : World} (hgd : o.guard = none) (s x : Operand) (t : TypeId)
    (ho : o.op = .call { callee := .builtin .append, args := #[s, x], argTypes := #[t, t] })
    {e : TypeId} {z : Value} {sz bytes : Nat} (hT : ElemTy P t e z sz bytes)
    {W : World} {V v : Value} {N m k : Nat} {xs ys news : List Value} (hv : a.eval s = v) (h : App W V e sz N xs w v m ys) {H : Nat} (hx : a.eval x = .slice (some ⟨H, 0, none⟩) k k) (hH : w.heap.size = H)
    (hl : news.length = k * sz) (h1 : ∀ u ∈ news, u.oneCell' = true) (h63 : N + m + k ≤ maxLen) (hbytes : (N + m + k) * bytes ≤ 140737488355328)
    (K : ∀ v' w', App W V e sz N xs w' v' (m + k) (ys ++ news) → wpList P ops Q rest (a.put o.dst v') w') : wpList P ops Q (o :: rest) a (w.alloc (.cells news.toArray e)) :=
  wpList_append_el hgd s x t t ho hT hv (h.alloc _).buf (hx.trans (by rw [hH])) ((Buf.lit w e sz k news hl (by omega)).src hT.slice h1) h63 hbytes fun v' w' hb ha hg => K v' w' ((h.alloc _).step hb ha hg)
theorem Grew.new {w : World} {v v' : Value} (h : Grew w v v') {B : Nat} (hB : B ≤ w.heap.size) (hv : ∀ k, v.ownBlock = some k → B ≤ k) : ∀ k, v'.ownBlock = some k → B ≤ k := by
  intro k hk
  rcases h with ⟨A, n, n', c, rfl, rfl, _⟩ | ⟨g, n', c', rfl, hg⟩
  · exact hv k (by cases A <;> simp_all [Value.ownBlock])
  · simp [Value.ownBlock] at hk
    omega

/-- an empty literal -/
theorem App.lit0 (w : World) (e : TypeId) (sz : Nat) : App (w.alloc (.cells #[] e)) (.slice (some ⟨w.heap.size, 0, none⟩) 0 0) e sz 0 [] (w.alloc (.cells #[] e)) (.slice (some ⟨w.heap.size, 0, none⟩) 0 0) 0 [] :=
  App.start' (Buf.lit w e sz 0 [] (by simp) (Nat.zero_le _))

end Go.Bar
