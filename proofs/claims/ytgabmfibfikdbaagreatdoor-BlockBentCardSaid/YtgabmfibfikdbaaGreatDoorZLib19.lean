/-
  Regions that draw their order and store into a block of the call's own, cell by cell: which cells have turned is told by which stores are done. Plain lemmas; no condition.
-/
import Derived.Test.YtgabmfibfikdbaaGreatDoorZLib11
import Derived.Test.YtgabmfibfikdbaaGreatDoorZBokN
import Derived.Test.YtgabmfibfikdbaaGreatDoorZLib8
import Derived.Test.YtgabmfibfikdbaaGreatDoorZLabU
import Derived.Test.YtgabmfibfikdbaaGreatDoorZLabB

namespace Go.Bar
open Go.RowKit

/-- operation m comes behind operation i -/
def Af (m i : Nat) (D : Nat → Bool) : Prop := D m = true → D i = true
section
variable {m i j : Nat} {D : Nat → Bool}
theorem Af.start : Af m i (fun _ => false) := fun h => by cases h
theorem Af.upd (h : Af m i D) (hj : m ≠ j) : Af m i (Dn.upd D j) := fun g => by
  rw [Dn.upd_ne D hj] at g
  by_cases hij : i = j
  · subst hij; exact Dn.upd_self D i
  · rw [Dn.upd_ne D hij]; exact h g
theorem Af.last (h : D i = true) : Af m i (Dn.upd D m) := fun _ => by
  by_cases hij : i = m
  · subst hij; exact Dn.upd_self D i
  · rw [Dn.upd_ne D hij]; exact h
theorem Af.no (h : Af m i D) (hi : D i = false) : D m = false := by
  cases hm : D m
  · rfl
  · rw [h hm] at hi; cases hi
end

/-- a block of four cells; the first three are written by operations m0, m1, m2 -/
def B3 (Q : Nat) (T : TypeId) (m0 m1 m2 : Nat) (o0 o1 o2 n0 n1 n2 p : Value) (D : Nat → Bool) (w : World) : Prop := Blk w Q T #[bif D m0 then n0 else o0, bif D m1 then n1 else o1, bif D m2 then n2 else o2, p]
section
variable {Q : Nat} {T : TypeId} {m0 m1 m2 : Nat} {o0 o1 o2 n0 n1 n2 p : Value} {D : Nat → Bool} {w : World}
theorem B3.start (h : Blk w Q T #[o0, o1, o2, p]) : B3 Q T m0 m1 m2 o0 o1 o2 n0 n1 n2 p (fun _ => false) w := h
theorem B3.same (h : B3 Q T m0 m1 m2 o0 o1 o2 n0 n1 n2 p D w) {j : Nat} (h0 : m0 ≠ j) (h1 : m1 ≠ j) (h2 : m2 ≠ j) : B3 Q T m0 m1 m2 o0 o1 o2 n0 n1 n2 p (Dn.upd D j) w := by
  unfold B3
  rw [Dn.upd_ne D h0, Dn.upd_ne D h1, Dn.upd_ne D h2]
  exact h
theorem B3.free (h : B3 Q T m0 m1 m2 o0 o1 o2 n0 n1 n2 p D w) (i : Nat) : w.frozen? ⟨Q, i, none⟩ = false := Blk.free h i
theorem B3.end_ (h : B3 Q T m0 m1 m2 o0 o1 o2 n0 n1 n2 p D w) (h0 : D m0 = true) (h1 : D m1 = true) (h2 : D m2 = true) : Blk w Q T #[n0, n1, n2, p] := by
  unfold B3 at h
  rw [h0, h1, h2] at h
  exact h
end
/-- only block Q has turned: buffers of another element type stay -/
theorem Buf.fr_ne {w w' : World} {e : TypeId} {sz n : Nat} {v : Value} {xs : List Value} (h : Buf w e sz v n xs) {Q : Nat} {T : TypeId} {cur : Array Value} (hb : Blk w Q T cur) (hne : e ≠ T) (hf : Fr (fun k _ => k = Q) w w') : Buf w' e sz v n xs := by
  obtain ⟨hl, A, c, rfl, hnc, hc, hv⟩ := h
  refine ⟨hl, A, c, rfl, hnc, hc, fun h0 => ?_⟩
  obtain ⟨b, o, cur', fr, rfl, hbk, hs, hfz, hx⟩ := hv h0
  refine ⟨b, o, cur', fr, rfl, (hf.block (Array.getElem?_eq_some_iff.1 hbk).1 (fun i e => ?_)).trans hbk, hs, hfz, hx⟩
  have e : b = Q := e
  subst e
  unfold Blk at hb
  rw [hbk] at hb
  injection hb with hb
  injection hb with _ h2 _
  exact hne h2
theorem NBuf.fr_ne {w0 w w' : World} {e : TypeId} {sz n : Nat} {v : Value} {xs : List Value} (h : NBuf w0 w e sz v n xs) {Q : Nat} {T : TypeId} {cur : Array Value} (hb : Blk w Q T cur) (hne : e ≠ T) (hQ : w0.heap.size ≤ Q) (hf : Fr (fun k _ => k = Q) w w') : NBuf w0 w' e sz v n xs :=
  ⟨h.buf.fr_ne hb hne hf, h.below.trans (hf.below h.below.size (fun k _ hk e => by have e : k = Q := e; omega)), h.new⟩
end Go.Bar

/-
  Regions that draw their order and store into a known block: each store by an operation of its own; what the cells hold is told by which stores are done. Plain lemmas; no condition.
-/
namespace Go.Bar
open Go.RowKit

theorem below_al (w : World) (o : Obj) : Below w.heap.size w (w.alloc o) := (Below.refl _ _).alloc (Nat.le_refl _) o
/-- operations, the cells that they write, the values -/
abbrev Sts := List (Nat × Nat × Value)
def Sts.at_ (L : Sts) (D : Nat → Bool) (i : Nat) : Option Value := (L.find? (fun e => e.2.1 == i && D e.1)).map (·.2.2)
/-- block Q: the stores that are done, the others as they were -/
def Sv (Q : Nat) (T : TypeId) (L : Sts) (cur0 : Array Value) (D : Nat → Bool) (w : World) : Prop := ∃ cur, Blk w Q T cur ∧ cur.size = cur0.size ∧ ∀ i, i < cur0.size → cur[i]? = (Sts.at_ L D i).or cur0[i]?
section
variable {Q : Nat} {T : TypeId} {L : Sts} {cur0 : Array Value} {D : Nat → Bool} {w : World}
theorem Sv.start (h : Blk w Q T cur0) : Sv Q T L cur0 (fun _ => false) w := ⟨cur0, h, rfl, fun i _ => by
  have : Sts.at_ L (fun _ => false) i = none := by
    unfold Sts.at_
    rw [List.find?_eq_none.2 (by simp)]
    rfl
  rw [this, Option.none_or]⟩
theorem sts_upd {j : Nat} (h : ∀ e ∈ L, e.1 ≠ j) (i : Nat) : Sts.at_ L (Dn.upd D j) i = Sts.at_ L D i := by
  unfold Sts.at_
  congr 1
  induction L with
  | nil => rfl
  | cons e r ih =>
    rw [List.find?_cons, List.find?_cons, Dn.upd_ne D (h e (List.mem_cons_self ..)), ih (fun x hx => h x (List.mem_cons_of_mem _ hx))]
theorem Sv.same (h : Sv Q T L cur0 D w) {j : Nat} (hj : ∀ e ∈ L, e.1 ≠ j) : Sv Q T L cur0 (Dn.upd D j) w := by
  obtain ⟨cur, h1, h2, h3⟩ := h
  exact ⟨cur, h1, h2, fun i hi => by rw [sts_upd hj]; exact h3 i hi⟩
theorem Sv.below (h : Sv Q T L cur0 D w) {w' : World} (hb : Below w.heap.size w w') : Sv Q T L cur0 D w' := by obtain ⟨cur, h1, h2, h3⟩ := h; exact ⟨cur, h1.below hb, h2, h3⟩
theorem Sv.free (h : Sv Q T L cur0 D w) (i : Nat) : w.frozen? ⟨Q, i, none⟩ = false := by obtain ⟨cur, h1, _⟩ := h; exact h1.free i
theorem Sv.blk (h : Sv Q T L cur0 D w) : ∃ cur, Blk w Q T cur ∧ cur.size = cur0.size := by obtain ⟨cur, h1, h2, _⟩ := h; exact ⟨cur, h1, h2⟩
theorem Sv.some_ (h : Sv Q T L cur0 D w) {i : Nat} (hi : i < cur0.size) : ∃ u, w.cell? ⟨Q, i, none⟩ = some u := by
  obtain ⟨cur, h1, h2, _⟩ := h
  exact ⟨_, h1.cell (Array.getElem?_eq_getElem (by omega))⟩
theorem Sv.load (h : Sv Q T L cur0 D w) {i : Nat} {u : Value} (hu : cur0[i]? = some u) (hi : ∀ e ∈ L, e.2.1 = i → D e.1 = false) : w.cell? ⟨Q, i, none⟩ = some u := by
  obtain ⟨cur, h1, h2, h3⟩ := h
  refine h1.cell ?_
  rw [h3 i (Array.getElem?_eq_some_iff.1 hu).1]
  have : Sts.at_ L D i = none := by
    unfold Sts.at_
    rw [List.find?_eq_none.2]
    · rfl
    · intro e he
      simp only [Bool.and_eq_true, beq_iff_eq, not_and, Bool.not_eq_true]
      exact hi e he
  rw [this, Option.none_or]
  exact hu
open Classical in
theorem Sv.set (h : Sv Q T L cur0 D w) {m j : Nat} {v : Value} (hm : (m, j, v) ∈ L) (hn1 : (L.map (·.1)).Nodup) (hn2 : (L.map (·.2.1)).Nodup) : Sv Q T L cur0 (Dn.upd D m) (w.setCell ⟨Q, j, none⟩ v) := by
  obtain ⟨cur, h1, h2, h3⟩ := h
  refine ⟨cur.setIfInBounds j v, h1.set j v, by rw [Array.size_setIfInBounds]; exact h2, fun i hi => ?_⟩
  have key : ∀ L' : Sts, (∀ e ∈ L', e ∈ L) → Sts.at_ L' (Dn.upd D m) i = if i = j ∧ (m, j, v) ∈ L' then some v else Sts.at_ L' D i := by
    intro L' hL'
    have uniq : ∀ e ∈ L, (e.1 = m → e = (m, j, v)) ∧ (e.2.1 = j → e = (m, j, v)) := by
      have h1 : ∀ {α β : Type} (f : α → β) (l : List α), (l.map f).Nodup → ∀ a ∈ l, ∀ b ∈ l, f a = f b → a = b := by
        intro α β f l
        induction l with
        | nil => intro _ a ha; cases ha
        | cons x r ih =>
          intro hn a ha b hb he
          rw [List.map_cons, List.nodup_cons] at hn
          rcases List.mem_cons.1 ha with ea | ha'
          · rcases List.mem_cons.1 hb with eb | hb'
            · rw [ea, eb]
            · exact absurd (show f x ∈ r.map f by rw [← ea, he]; exact List.mem_map_of_mem hb') hn.1
          · rcases List.mem_cons.1 hb with eb | hb'
            · exact absurd (show f x ∈ r.map f by rw [← eb, ← he]; exact List.mem_map_of_mem ha') hn.1
            · exact ih hn.2 a ha' b hb' he
      exact fun e he => ⟨fun h => h1 (·.1) L hn1 e he _ hm h, fun h => h1 (·.2.1) L hn2 e he _ hm h⟩
    induction L' with
    | nil => simp [Sts.at_]
    | cons e r ih =>
      have ih := ih (fun x hx => hL' x (List.mem_cons_of_mem _ hx))
      have he := uniq e (hL' e (List.mem_cons_self ..))
      unfold Sts.at_ at ih ⊢
      rw [List.find?_cons, List.find?_cons]
      by_cases hem : e.1 = m
      · have e1 := he.1 hem
        subst e1
        rw [Dn.upd_self, Bool.and_true]
        by_cases hij : i = j
        · subst hij
          rw [beq_self_eq_true, if_pos ⟨rfl, List.mem_cons_self ..⟩]
          rfl
        · rw [show (j == i) = false from beq_eq_false_iff_ne.2 (fun h => hij h.symm), if_neg (fun h => hij h.1), Bool.false_and]
          simp only
          rw [ih, if_neg (fun h => hij h.1)]
      · rw [Dn.upd_ne D hem]
        rcases hc : (e.2.1 == i && D e.1)
        · simp only
          rw [ih]
          by_cases hij : i = j ∧ (m, j, v) ∈ r
          · rw [if_pos hij, if_pos ⟨hij.1, List.mem_cons_of_mem _ hij.2⟩]
          · rw [if_neg hij, if_neg (fun h => hij ⟨h.1, by
              rcases List.mem_cons.1 h.2 with h2 | h2
              · exact absurd (by rw [← h2]) hem
              · exact h2⟩)]
        · simp only [Bool.and_eq_true, beq_iff_eq] at hc
          have hij : i ≠ j := fun h => hem (by rw [he.2 (hc.1.trans h)])
          simp only
          rw [if_neg (fun h => hij h.1)]
  rw [key L (fun _ h => h)]
  by_cases hij : i = j
  · subst hij
    rw [if_pos ⟨rfl, hm⟩, Option.some_or]
    exact Array.getElem?_setIfInBounds_self_of_lt (by omega)
  · rw [if_neg (fun h => hij h.1), Array.getElem?_setIfInBounds_ne (fun h => hij h.symm)]
    exact h3 i hi
theorem Sv.end_ (h : Sv Q T L cur0 D w) (hD : ∀ e ∈ L, D e.1 = true) (cur1 : Array Value) (hs : cur1.size = cur0.size) (hc : ∀ i, i < cur0.size → cur1[i]? = ((L.find? (fun e => e.2.1 == i)).map (·.2.2)).or cur0[i]?) : Blk w Q T cur1 := by
  obtain ⟨cur, h1, h2, h3⟩ := h
  have hf : ∀ (L' : Sts) (i : Nat), (∀ e ∈ L', D e.1 = true) → L'.find? (fun e => e.2.1 == i && D e.1) = L'.find? (fun e => e.2.1 == i) := by
    intro L' i hL'
    induction L' with
    | nil => rfl
    | cons e r ih =>
      rw [List.find?_cons, List.find?_cons, hL' e (List.mem_cons_self ..), Bool.and_true, ih (fun x hx => hL' x (List.mem_cons_of_mem _ hx))]
  have : cur = cur1 := by
    refine Array.ext_getElem? fun i => ?_
    by_cases hi : i < cur0.size
    · rw [h3 i hi, hc i hi]
      unfold Sts.at_
      rw [hf L i hD]
    · rw [Array.getElem?_eq_none (by omega), Array.getElem?_eq_none (by omega)]
  rw [← this]
  exact h1
end
end Go.Bar

/-
  Layer 16: entries in memory; writers of numbers over a buffer of the call's own; the walk of Index.
-/
namespace Go.Proofs.YtgabmfibfikdbaaGreatDoor
open Go.RowKit Go.Bar Go.Bar.Leb Go.Bar.Lab Go.Bar.Xor Go.Bar.Mrg Go.Bar.Met Go.Bar.Bok

/-- an entry in memory: where its labels lie -/
structure Ev where
  ls : List Pr
  la : Option Addr
  lc : Nat
  fr : Int
  n : Int
  mn : Int
  mx : Int
def plE (x : Ev) : En := ⟨x.ls, x.fr, x.n, x.mn, x.mx⟩
def encE (x : Ev) : List Value := [.slice x.la x.ls.length x.lc, .int .i64 x.fr, .int .i64 x.n, .int .i64 x.mn, .int .i64 x.mx]
theorem encE_five (x : Ev) : (encE x).length = 5 := rfl
def ecs (l : List Ev) : List Value := l.flatMap encE
theorem ecs_app (l m : List Ev) : ecs (l ++ m) = ecs l ++ ecs m := List.flatMap_append
abbrev cE (x : Ev) : Array Value := #[.slice x.la x.ls.length x.lc, .int .i64 x.fr, .int .i64 x.n, .int .i64 x.mn, .int .i64 x.mx]
/-- entries that are readable -/
def EsAt (w : World) (v : Value) (l : List Ev) : Prop := SlAt w 5 v l.length (ecs l) ∧ ∀ x ∈ l, PsAt w (.slice x.la x.ls.length x.lc) x.ls
section
variable {w w' : World} {v : Value} {l : List Ev}
theorem EsAt.below (h : EsAt w v l) (hb : Below w.heap.size w w') : EsAt w' v l := ⟨h.1.below hb, fun x hx => (h.2 x hx).below hb⟩
theorem EsAt.shape (h : EsAt w v l) : ∃ A c, v = .slice A l.length c ∧ l.length ≤ c ∧ c ≤ maxLen := h.1.shape
theorem EsAt.at_ {A : Option Addr} {n c i : Nat} {x : Ev} (h : EsAt w (.slice A n c) l) (hi : l[i]? = some x) : ∃ b o, A = some ⟨b, o, none⟩ ∧ b < w.heap.size ∧ PsAt w (.slice x.la x.ls.length x.lc) x.ls ∧
    w.cell? ⟨b, o + i * 5, none⟩ = some (.slice x.la x.ls.length x.lc) ∧ w.cell? ⟨b, o + i * 5 + 1, none⟩ = some (.int .i64 x.fr) ∧ w.cell? ⟨b, o + i * 5 + 2, none⟩ = some (.int .i64 x.n) ∧ w.cell? ⟨b, o + i * 5 + 3, none⟩ = some (.int .i64 x.mn) ∧ w.cell? ⟨b, o + i * 5 + 4, none⟩ = some (.int .i64 x.mx) := by
  have hlt : i < l.length := (List.getElem?_eq_some_iff.1 hi).1
  obtain ⟨A', c', he, _⟩ := h.1.shape
  injection he with e1 e2 e3
  subst e1; subst e2; subst e3
  obtain ⟨b, o, rfl, hb, hc⟩ := SlAt.cells h.1 (by omega)
  have g := flat_get encE 5 encE_five l i x hi
  exact ⟨b, o, rfl, hb, h.2 x (List.mem_of_getElem? hi), hc _ _ (g 0 (by omega)), hc _ _ (g 1 (by omega)), hc _ _ (g 2 (by omega)), hc _ _ (g 3 (by omega)), hc _ _ (g 4 (by omega))⟩
end
/-- an entry whose labels were there at B, or are the call's own since W0 -/
def DeepE (B W0 w : World) (Tp : TypeId) (x : Ev) : Prop := PsAt B (.slice x.la x.ls.length x.lc) x.ls ∨ NBuf W0 w Tp 2 (.slice x.la x.ls.length x.lc) x.ls.length (pcs x.ls)
/-- such entries in a buffer that is new since W -/
structure DEs (B W0 W w : World) (T Tp : TypeId) (v : Value) (l : List Ev) : Prop where
  n : NBuf W w T 5 v l.length (ecs l)
  b : Below W0.heap.size W0 W
  d : ∀ x ∈ l, DeepE B W0 w Tp x
section
variable {B W0 W w w' : World} {T Tp : TypeId} {v : Value} {l : List Ev} {x : Ev}
theorem DeepE.ke {Ts : TypeId → Prop} (h : DeepE B W0 w Tp x) (hk : Ke Ts w w') (hb : Below W0.heap.size W0 w') (h1 : ¬ Ts Tp) : DeepE B W0 w' Tp x := h.imp id fun h => nbuf_ke h hk hb h1
theorem DeepE.below (h : DeepE B W0 w Tp x) (hb : Below w.heap.size w w') : DeepE B W0 w' Tp x := h.imp id fun h => h.then_below hb
theorem DeepE.rat (h : DeepE B W0 w Tp x) (hb : Below B.heap.size B w) : PsAt w (.slice x.la x.ls.length x.lc) x.ls := h.elim (fun h => h.below hb) fun h => h.slice
theorem DeepE.after {W1 : World} (h : DeepE B W0 w Tp x) (hb : Below W1.heap.size W1 W0) : DeepE B W1 w Tp x := h.imp id fun h => h.after hb
theorem DEs.below (h : DEs B W0 W w T Tp v l) (hb : Below w.heap.size w w') : DEs B W0 W w' T Tp v l := ⟨h.n.then_below hb, h.b, fun x hx => (h.d x hx).below hb⟩
theorem DEs.at_ (h : DEs B W0 W w T Tp v l) (hb : Below B.heap.size B w) : EsAt w v l := ⟨h.n.slice, fun x hx => (h.d x hx).rat hb⟩
theorem DEs.ke {Ts : TypeId → Prop} (h : DEs B W0 W w T Tp v l) (hk : Ke Ts w w') (hb : Below W.heap.size W w') (h1 : ¬ Ts T) (h2 : ¬ Ts Tp) : DEs B W0 W w' T Tp v l := ⟨nbuf_ke h.n hk hb h1, h.b, fun x hx => (h.d x hx).ke hk (below_trans h.b hb) h2⟩
theorem DEs.after {W1 : World} (h : DEs B W0 W w T Tp v l) (hb : Below W1.heap.size W1 W) (h0 : Below W0.heap.size W0 W1) : DEs B W0 W1 w T Tp v l := ⟨h.n.after hb, h0, h.d⟩
theorem DEs.up {W1 : World} (h : DEs B W0 W0 w T Tp v l) (hb : Below W1.heap.size W1 W0) : DEs B W1 W1 w T Tp v l := ⟨h.n.after hb, Below.refl _ _, fun x hx => (h.d x hx).after hb⟩
theorem DEs.nil (hb : Below W.heap.size W w) (h0 : Below W0.heap.size W0 W) (T Tp : TypeId) : DEs B W0 W w T Tp (.slice none 0 0) [] := ⟨NBuf.nil hb _ _, h0, fun x hx => by cases hx⟩
theorem DEs.snoc {wa w2 : World} {v2 : Value} (h : DEs B W0 W wa T Tp v l) (hx : DeepE B W0 wa Tp x) (hn : NBuf W w2 T 5 v2 (l.length + 1) (ecs l ++ encE x)) (ha : Ap wa w2 5 v) (h1 : Tp ≠ T) : DEs B W0 W w2 T Tp v2 (l ++ [x]) := by
  have hk : Ke (fun U => U = T) wa w2 := Ke.of_ap h.n.buf ha rfl
  have hb := below_trans h.b hn.below
  refine ⟨?_, h.b, fun y hy => ?_⟩
  · rw [List.length_append, ecs_app]
    have e : ecs [x] = encE x := List.append_nil _
    rw [e]
    exact hn
  · rcases List.mem_append.1 hy with hy | hy
    · exact (h.d y hy).ke hk hb h1
    · obtain rfl := List.mem_singleton.1 hy
      exact hx.ke hk hb h1
end

/-- bytes more in a buffer of the call's own; blocks of other types stay -/
def RetNb (w0 W : World) (xs : List UInt8) (e : Ending) (w' : World) : Prop := ∃ v, e = .returned v ∧ NBuf w0 w' 5 1 v xs.length (bcs xs) ∧ Ke (fun T => T = 5) W w'
theorem RetNb.of {w0 W : World} {V : Value} {xs ys : List UInt8} {e : Ending} {w' : World} (h : NBuf w0 W 5 1 V xs.length (bcs xs)) (hr : RetB W V 5 xs ys e w') : RetNb w0 W (xs ++ ys) e w' := by
  obtain ⟨v, rfl, ha⟩ := hr
  exact ⟨v, rfl, h.step ha.buf ha.ap ha.grew, Ke.of_ap h.buf ha.ap rfl⟩

theorem entry_ty : ElemTy Tryz.prog 25 45 (.agg #[.slice none 0 0, .int .i64 0, .int .i64 0, .int .i64 0, .int .i64 0]) 5 56 :=
  ⟨Tryz.underlying25, info_parts (show (Tryz.prog.info? 45).map (fun i => (i.zero, i.size, i.bytes)) = some (some (.agg #[.slice none 0 0, .int .i64 0, .int .i64 0, .int .i64 0, .int .i64 0]), 5, 56) by kernel_rfl), rfl⟩

end Go.Proofs.YtgabmfibfikdbaaGreatDoor
