/-
  Layer 20: PlanEnds holds: for every list of blocks and every width, plans come to an end. No condition.
-/
import Derived.Test.YtemmgejaoegpfaaLib9
import Derived.Test.YtemmgejaoegpfaaLib17
import Derived.Test.YtemmgejaoegpfaaLib10
import Derived.Test.YtemmgejaoegpfaaPlnM
import Derived.Test.YtemmgejaoegpfaaPlnL
import Derived.Test.YtemmgejaoegpfaaLib12
import Derived.Test.YtemmgejaoegpfaaRows

/-
  Blocks that are known whole: all their cells at once. Plain lemmas over any program; no condition.
-/
namespace Go.Bar
open Go.RowKit

section
variable {w : World} {M : Nat} {T : TypeId} {a0 a1 a2 a3 a4 a5 a6 a7 a8 a9 a10 a11 : Value}
theorem Blk.c1 (h : Blk w M T #[a0]) : w.cell? ⟨M, 0, none⟩ = some a0 := h.cell (i := 0) rfl
theorem Blk.c2 (h : Blk w M T #[a0, a1]) : w.cell? ⟨M, 0, none⟩ = some a0 ∧ w.cell? ⟨M, 1, none⟩ = some a1 := ⟨h.cell (i := 0) rfl, h.cell (i := 1) rfl⟩
theorem Blk.c3 (h : Blk w M T #[a0, a1, a2]) : w.cell? ⟨M, 0, none⟩ = some a0 ∧ w.cell? ⟨M, 1, none⟩ = some a1 ∧ w.cell? ⟨M, 2, none⟩ = some a2 := ⟨h.cell (i := 0) rfl, h.cell (i := 1) rfl, h.cell (i := 2) rfl⟩
theorem Blk.c4 (h : Blk w M T #[a0, a1, a2, a3]) : w.cell? ⟨M, 0, none⟩ = some a0 ∧ w.cell? ⟨M, 1, none⟩ = some a1 ∧ w.cell? ⟨M, 2, none⟩ = some a2 ∧ w.cell? ⟨M, 3, none⟩ = some a3 := ⟨h.cell (i := 0) rfl, h.cell (i := 1) rfl, h.cell (i := 2) rfl, h.cell (i := 3) rfl⟩
theorem Blk.c5 (h : Blk w M T #[a0, a1, a2, a3, a4]) : w.cell? ⟨M, 0, none⟩ = some a0 ∧ w.cell? ⟨M, 1, none⟩ = some a1 ∧ w.cell? ⟨M, 2, none⟩ = some a2 ∧ w.cell? ⟨M, 3, none⟩ = some a3 ∧ w.cell? ⟨M, 4, none⟩ = some a4 := ⟨h.cell (i := 0) rfl, h.cell (i := 1) rfl, h.cell (i := 2) rfl, h.cell (i := 3) rfl, h.cell (i := 4) rfl⟩
theorem Blk.c6 (h : Blk w M T #[a0, a1, a2, a3, a4, a5]) : w.cell? ⟨M, 0, none⟩ = some a0 ∧ w.cell? ⟨M, 1, none⟩ = some a1 ∧ w.cell? ⟨M, 2, none⟩ = some a2 ∧ w.cell? ⟨M, 3, none⟩ = some a3 ∧ w.cell? ⟨M, 4, none⟩ = some a4 ∧ w.cell? ⟨M, 5, none⟩ = some a5 := ⟨h.cell (i := 0) rfl, h.cell (i := 1) rfl, h.cell (i := 2) rfl, h.cell (i := 3) rfl, h.cell (i := 4) rfl, h.cell (i := 5) rfl⟩
theorem Blk.c7 (h : Blk w M T #[a0, a1, a2, a3, a4, a5, a6]) : w.cell? ⟨M, 0, none⟩ = some a0 ∧ w.cell? ⟨M, 1, none⟩ = some a1 ∧ w.cell? ⟨M, 2, none⟩ = some a2 ∧ w.cell? ⟨M, 3, none⟩ = some a3 ∧ w.cell? ⟨M, 4, none⟩ = some a4 ∧ w.cell? ⟨M, 5, none⟩ = some a5 ∧ w.cell? ⟨M, 6, none⟩ = some a6 := ⟨h.cell (i := 0) rfl, h.cell (i := 1) rfl, h.cell (i := 2) rfl, h.cell (i := 3) rfl, h.cell (i := 4) rfl, h.cell (i := 5) rfl, h.cell (i := 6) rfl⟩
theorem Blk.c8 (h : Blk w M T #[a0, a1, a2, a3, a4, a5, a6, a7]) : w.cell? ⟨M, 0, none⟩ = some a0 ∧ w.cell? ⟨M, 1, none⟩ = some a1 ∧ w.cell? ⟨M, 2, none⟩ = some a2 ∧ w.cell? ⟨M, 3, none⟩ = some a3 ∧ w.cell? ⟨M, 4, none⟩ = some a4 ∧ w.cell? ⟨M, 5, none⟩ = some a5 ∧ w.cell? ⟨M, 6, none⟩ = some a6 ∧ w.cell? ⟨M, 7, none⟩ = some a7 := ⟨h.cell (i := 0) rfl, h.cell (i := 1) rfl, h.cell (i := 2) rfl, h.cell (i := 3) rfl, h.cell (i := 4) rfl, h.cell (i := 5) rfl, h.cell (i := 6) rfl, h.cell (i := 7) rfl⟩
theorem Blk.c9 (h : Blk w M T #[a0, a1, a2, a3, a4, a5, a6, a7, a8]) : w.cell? ⟨M, 0, none⟩ = some a0 ∧ w.cell? ⟨M, 1, none⟩ = some a1 ∧ w.cell? ⟨M, 2, none⟩ = some a2 ∧ w.cell? ⟨M, 3, none⟩ = some a3 ∧ w.cell? ⟨M, 4, none⟩ = some a4 ∧ w.cell? ⟨M, 5, none⟩ = some a5 ∧ w.cell? ⟨M, 6, none⟩ = some a6 ∧ w.cell? ⟨M, 7, none⟩ = some a7 ∧ w.cell? ⟨M, 8, none⟩ = some a8 := ⟨h.cell (i := 0) rfl, h.cell (i := 1) rfl, h.cell (i := 2) rfl, h.cell (i := 3) rfl, h.cell (i := 4) rfl, h.cell (i := 5) rfl, h.cell (i := 6) rfl, h.cell (i := 7) rfl, h.cell (i := 8) rfl⟩
theorem Blk.c10 (h : Blk w M T #[a0, a1, a2, a3, a4, a5, a6, a7, a8, a9]) : w.cell? ⟨M, 0, none⟩ = some a0 ∧ w.cell? ⟨M, 1, none⟩ = some a1 ∧ w.cell? ⟨M, 2, none⟩ = some a2 ∧ w.cell? ⟨M, 3, none⟩ = some a3 ∧ w.cell? ⟨M, 4, none⟩ = some a4 ∧ w.cell? ⟨M, 5, none⟩ = some a5 ∧ w.cell? ⟨M, 6, none⟩ = some a6 ∧ w.cell? ⟨M, 7, none⟩ = some a7 ∧ w.cell? ⟨M, 8, none⟩ = some a8 ∧ w.cell? ⟨M, 9, none⟩ = some a9 := ⟨h.cell (i := 0) rfl, h.cell (i := 1) rfl, h.cell (i := 2) rfl, h.cell (i := 3) rfl, h.cell (i := 4) rfl, h.cell (i := 5) rfl, h.cell (i := 6) rfl, h.cell (i := 7) rfl, h.cell (i := 8) rfl, h.cell (i := 9) rfl⟩
theorem Blk.c11 (h : Blk w M T #[a0, a1, a2, a3, a4, a5, a6, a7, a8, a9, a10]) : w.cell? ⟨M, 0, none⟩ = some a0 ∧ w.cell? ⟨M, 1, none⟩ = some a1 ∧ w.cell? ⟨M, 2, none⟩ = some a2 ∧ w.cell? ⟨M, 3, none⟩ = some a3 ∧ w.cell? ⟨M, 4, none⟩ = some a4 ∧ w.cell? ⟨M, 5, none⟩ = some a5 ∧ w.cell? ⟨M, 6, none⟩ = some a6 ∧ w.cell? ⟨M, 7, none⟩ = some a7 ∧ w.cell? ⟨M, 8, none⟩ = some a8 ∧ w.cell? ⟨M, 9, none⟩ = some a9 ∧ w.cell? ⟨M, 10, none⟩ = some a10 := ⟨h.cell (i := 0) rfl, h.cell (i := 1) rfl, h.cell (i := 2) rfl, h.cell (i := 3) rfl, h.cell (i := 4) rfl, h.cell (i := 5) rfl, h.cell (i := 6) rfl, h.cell (i := 7) rfl, h.cell (i := 8) rfl, h.cell (i := 9) rfl, h.cell (i := 10) rfl⟩
theorem Blk.c12 (h : Blk w M T #[a0, a1, a2, a3, a4, a5, a6, a7, a8, a9, a10, a11]) : w.cell? ⟨M, 0, none⟩ = some a0 ∧ w.cell? ⟨M, 1, none⟩ = some a1 ∧ w.cell? ⟨M, 2, none⟩ = some a2 ∧ w.cell? ⟨M, 3, none⟩ = some a3 ∧ w.cell? ⟨M, 4, none⟩ = some a4 ∧ w.cell? ⟨M, 5, none⟩ = some a5 ∧ w.cell? ⟨M, 6, none⟩ = some a6 ∧ w.cell? ⟨M, 7, none⟩ = some a7 ∧ w.cell? ⟨M, 8, none⟩ = some a8 ∧ w.cell? ⟨M, 9, none⟩ = some a9 ∧ w.cell? ⟨M, 10, none⟩ = some a10 ∧ w.cell? ⟨M, 11, none⟩ = some a11 := ⟨h.cell (i := 0) rfl, h.cell (i := 1) rfl, h.cell (i := 2) rfl, h.cell (i := 3) rfl, h.cell (i := 4) rfl, h.cell (i := 5) rfl, h.cell (i := 6) rfl, h.cell (i := 7) rfl, h.cell (i := 8) rfl, h.cell (i := 9) rfl, h.cell (i := 10) rfl, h.cell (i := 11) rfl⟩
end
/-- m[k], an operation of a region that draws its order -/
theorem oper_lookup_mp {P : Program} {w : World} {o : Oper} {a : Act} {K : Act → World → Prop} {Q : Exit → Act → World → Prop} (m x : Operand) (t : TypeId) (hop : o.op = Op.lookup t m x false) {k e : TypeId} (T : MapTy P t k e) {b n : Nat} {f : List UInt8 → Option Int}
    (hm : a.eval m = .map (some b)) (h : MpAt P k e w b n f) (l : List UInt8) (hx : a.eval x = .string (bs l)) (hl : l.length ≤ maxLen) (z : Int) (hz : (f l).getD 0 = z)
    (hK : K (a.put o.dst (.int .i64 z)) w) : Oper.wp P o a w K Q := by
  subst hz
  obtain ⟨D, h, hs⟩ := h
  obtain ⟨c, hrun, hat, hwc⟩ := h.lookup_int (Maps.string_keyed T.key) T.map T.elem (T.zero w) (key_of T.key l hl)
  have := el_inj ((hs.at_ l).symm.trans hat)
  unfold Oper.wp
  simp [execOp, hop, hm, hx, hrun, Result.andThen]
  rw [← this]
  exact hK
end Go.Bar

/-
  A region that draws its order, whose operations leave facts of their values until the last one, which may write. Over Lib10's rule. Plain lemmas over any program; no condition.
-/
namespace Go.Bar.Dv
open Go.RowKit Go.Bar Go.Bar.Dn

/-- what is kept of the operations: a class of its value, a fact of it -/
abbrev Kp := (Value → Prop) × (Value → World → Prop) × Nat
def clsOf (L : List (Nat × Kp)) : Nat → Option (Value → Prop) := fun k => (L.lookup k).map (·.1)
def factOf (L : List (Nat × Kp)) (k : Nat) : Value → World → Prop := match L.lookup k with
  | some g => g.2.1
  | none => fun _ _ => True
/-- which operation ends the fact -/
def lifeOf (L : List (Nat × Kp)) (k : Nat) : Nat := match L.lookup k with
  | some g => g.2.2
  | none => 0
theorem lookup_mem {L : List (Nat × Kp)} {k : Nat} {g : Kp} (h : L.lookup k = some g) : ∃ x ∈ L, x.2 = g := by
  induction L with
  | nil => cases h
  | cons x L ih =>
    obtain ⟨k', g'⟩ := x
    rw [List.lookup_cons] at h
    split at h
    · injection h with h; exact ⟨(k', g'), by simp, h⟩
    · obtain ⟨y, hy, e⟩ := ih h
      exact ⟨y, by simp [hy], e⟩
/-- a fact that what comes later does not turn -/
theorem fact_st {L : List (Nat × Kp)} (h : ∀ x ∈ L, ∀ v w w', Below w.heap.size w w' → x.2.2.1 v w → x.2.2.1 v w') : ∀ k v w w', Below w.heap.size w w' → factOf L k v w → factOf L k v w' := by
  intro k v w w' hb hf
  unfold factOf at hf ⊢
  rcases hl : L.lookup k with _ | g
  · trivial
  · rw [hl] at hf
    obtain ⟨x, hx, rfl⟩ := lookup_mem hl
    exact h x hx v w w' hb hf
/-- until the last one the facts hold; then Fin -/
structure XT (ops : Array Oper) (w0 : World) (m : Nat) (L : List (Nat × Kp)) (Fin : (Nat → Value) → World → Prop) (vs : Nat → Value) (D : Nat → Bool) (w : World) : Prop where
  bel : Below w0.heap.size w0 w ∨ D m = true
  cl : ∀ k j, (L.lookup k).isSome = true → (L.lookup j).isSome = true → D k = true → preB ops k j = true → D j = true
  facts : D m = false → ∀ k, D k = true → D (lifeOf L k) = false → factOf L k (vs k) w
  fin : D m = true → Fin vs w ∧ ∀ j, j < m → D j = true
section
variable {P : Program} {ops : Array Oper} {w0 : World} {m : Nat} {L : List (Nat × Kp)} {Fin : (Nat → Value) → World → Prop} {Qn : Act → World → Prop} {n : Nat} {a0 : Act}
theorem fact_none {k : Nat} (h : clsOf L k = none) (v : Value) (w : World) : factOf L k v w := by
  unfold clsOf at h
  unfold factOf
  rcases hl : L.lookup k with _ | g
  · exact trivial
  · rw [hl] at h; cases h
theorem wp_region_two {id : Nat} {Q : Exit → Act → World → Prop} (hm : P.follows .mixedOrders = true) (n : Nat) (hf : regionFits ops n = true) (hn : a0.tmps.size = n) (hl : (L.lookup m).isSome = true)
    (hne : ∀ x ∈ L, ∃ v, x.2.1 v) (hfc : ∀ vs vs' w, (∀ j, (L.lookup j).isSome = true → j ≤ m → vs j = vs' j) → Fin vs w → Fin vs' w)
    (hc : Chain P ops (clsOf L) (XT ops w0 m L Fin) (Q .normal) 0 ops.toList a0 []) : (Code.region id ops true).wp P Q a0 w0 := by
  refine wp_region_chain (clsOf L) (XT ops w0 m L Fin) hm n hf hn ?_ ?_ ?_ ⟨.inl (Below.refl _ _).drew, fun _ _ _ _ h => (by cases h), fun _ k h => (by cases h), fun h => (by cases h)⟩ hc
  · intro k g hk
    unfold clsOf at hk
    rcases hl : L.lookup k with _ | g'
    · rw [hl] at hk; cases hk
    · rw [hl] at hk
      injection hk with hk
      subst hk
      obtain ⟨x, hx, rfl⟩ := lookup_mem hl
      exact hne x hx
  · intro vs vs' D w he hx
    refine ⟨hx.bel, hx.cl, fun hd k hk hl => by rw [← he k hk]; exact hx.facts hd k hk hl, fun hd => ⟨hfc vs vs' w (fun j _ hj => ?_) (hx.fin hd).1, (hx.fin hd).2⟩⟩
    rcases Nat.lt_or_ge j m with h | h
    · exact he j ((hx.fin hd).2 j h)
    · obtain rfl : j = m := by omega
      exact he j hd
  · intro i vs D w v hi hx
    have him : i ≠ m := fun e => by
      subst e
      unfold clsOf at hi
      rcases hh : L.lookup i with _ | g
      · rw [hh] at hl; cases hl
      · rw [hh] at hi; cases hi
    have hnt : ∀ j, (L.lookup j).isSome = true → j ≠ i := fun j hj e => by
      subst e
      unfold clsOf at hi
      rcases hh : L.lookup j with _ | g
      · rw [hh] at hj; cases hj
      · rw [hh] at hi; cases hi
    refine ⟨hx.bel.imp (fun h => h) fun h => by rw [upd_ne D (fun e => him e.symm)]; exact h, fun k j hk hj hd hp => ?_, fun hd k hk hlf => ?_, fun hd => ?_⟩
    · rw [upd_ne D (hnt k hk)] at hd
      rw [upd_ne D (hnt j hj)]
      exact hx.cl k j hk hj hd hp
    · rw [upd_ne D (fun e => him e.symm)] at hd
      by_cases e : k = i
      · subst e; exact fact_none hi _ _
      · rw [updV_ne vs v e]
        rw [upd_ne D e] at hk
        rcases hh : L.lookup k with _ | g
        · exact fact_none (by unfold clsOf; rw [hh]; rfl) _ _
        · refine hx.facts hd k hk ?_
          by_cases e2 : lifeOf L k = i
          · rw [e2, upd_self] at hlf; cases hlf
          · rwa [upd_ne D e2] at hlf
    · rw [upd_ne D (fun e => him e.symm)] at hd
      refine ⟨hfc vs _ w (fun j hj _ => ?_) (hx.fin hd).1, fun j hj => ?_⟩
      · rw [updV_ne vs v (hnt j hj)]
      · by_cases e : j = i
        · rw [e, upd_self]
        · rw [upd_ne D e]; exact (hx.fin hd).2 j hj
variable {M : List (Nat × Value)} {i i' : Nat} {o : Oper} {rest : List Oper} {a a' : Act}
theorem Chain.skip' (hG : clsOf L i = none) (hw : Region.wanted o (yielded ops a.tmps) = false) (hi : i + 1 = i') (ha : a.put o.dst undef = a')
    (hc : Chain P ops (clsOf L) (XT ops w0 m L Fin) Qn i' rest a' M) : Chain P ops (clsOf L) (XT ops w0 m L Fin) Qn i (o :: rest) a M := by
  subst ha; subst hi
  unfold Chain
  rw [hG]
  exact ⟨undef, .inr ⟨hw, rfl⟩, hc⟩
/-- an operation ahead of the last one; lv: the facts that live on when it is met -/
theorem XT.any (C : Value → Prop) (g : Value → World → Prop) (lf : Nat) (hG : L.lookup i = some (C, g, lf)) (him : i < m) (hw : Region.wanted o (yielded ops a.tmps) = true) (hi : i + 1 = i')
    (hp : ∀ (vs : Nat → Value) (D : Nat → Bool) (wx : World), Below w0.heap.size w0 wx → D i = false → (∀ j, preB ops i j = true → D j = true) → (∀ k j, (L.lookup k).isSome = true → (L.lookup j).isSome = true → D k = true → preB ops k j = true → D j = true) → (∀ k, D k = true → D (lifeOf L k) = false → factOf L k (vs k) wx) → (∀ j v, preB ops i j = true → M.lookup j = some v → D (lifeOf L j) = false → factOf L j v wx) →
      o.wp P a wx (fun a' w' => ∃ v, a' = a.put o.dst v ∧ C v ∧ Below w0.heap.size w0 w' ∧ g v w' ∧ ∀ k, k ≠ i → D k = true → D (lifeOf L k) = false → lifeOf L k ≠ i → factOf L k (vs k) w') (fun _ _ _ => False))
    (hc : ∀ v, C v → ∀ a', a.put o.dst v = a' → Chain P ops (clsOf L) (XT ops w0 m L Fin) Qn i' rest a' ((i, v) :: M)) : Chain P ops (clsOf L) (XT ops w0 m L Fin) Qn i (o :: rest) a M := by
  refine Chain.make C (by unfold clsOf; rw [hG]; rfl) hw hi (fun vs D wx hx hD hpre hv => ?_) hc
  have hdm : D m = false := by
    rcases h : D m with _ | _
    · rfl
    · have := (hx.fin h).2 i him
      rw [hD] at this; cases this
  have hbl : Below w0.heap.size w0 wx := by
    rcases hx.bel with h | h
    · exact h
    · rw [hdm] at h; cases h
  refine Oper.wp_mono (fun a' w' ⟨v, h1, h2, h3, h4, h5⟩ => ⟨v, h1, h2, .inl h3, fun k j hk hj hd hpj => ?_, fun _ k hk hlf => ?_, fun h => ?_⟩) (hp vs D wx hbl hD hpre hx.cl (hx.facts hdm) fun j v hj hl hlf => by
    have := hx.facts hdm j (hpre j hj) hlf
    rwa [hv j v hj hl] at this)
  · by_cases e : j = i
    · rw [e, upd_self]
    · rw [upd_ne D e]
      by_cases e2 : k = i
      · subst e2; exact hpre j hpj
      · rw [upd_ne D e2] at hd
        exact hx.cl k j hk hj hd hpj
  · by_cases e : k = i
    · subst e
      rw [updV_self]
      unfold factOf
      rw [hG]
      exact h4
    · rw [updV_ne vs v e]
      rw [upd_ne D e] at hk
      rcases hh : L.lookup k with _ | g
      · exact fact_none (by unfold clsOf; rw [hh]; rfl) _ _
      · by_cases e2 : lifeOf L k = i
        · rw [e2, upd_self] at hlf; cases hlf
        · rw [upd_ne D e2] at hlf
          exact h5 k e hk hlf e2
  · rw [upd_ne D (by omega)] at h
    rw [hdm] at h; cases h
/-- an operation ahead of the last one that leaves what was there -/
theorem XT.make (C : Value → Prop) (g : Value → World → Prop) (lf : Nat) (hG : L.lookup i = some (C, g, lf)) (him : i < m) (hst : ∀ k v w w', Below w.heap.size w w' → factOf L k v w → factOf L k v w') (hw : Region.wanted o (yielded ops a.tmps) = true) (hi : i + 1 = i')
    (hp : ∀ wx, Below w0.heap.size w0 wx → (∀ j v, preB ops i j = true → M.lookup j = some v → (lifeOf L j == i || preB ops (lifeOf L j) i) = true → factOf L j v wx) → o.wp P a wx (fun a' w' => ∃ v, a' = a.put o.dst v ∧ C v ∧ Below wx.heap.size wx w' ∧ g v w') (fun _ _ _ => False))
    (htr : ∀ x ∈ L, (L.lookup x.2.2.2).isSome = true)
    (hc : ∀ v, C v → ∀ a', a.put o.dst v = a' → Chain P ops (clsOf L) (XT ops w0 m L Fin) Qn i' rest a' ((i, v) :: M)) : Chain P ops (clsOf L) (XT ops w0 m L Fin) Qn i (o :: rest) a M := by
  refine XT.any C g lf hG him hw hi (fun vs D wx hx hD hpre hcl hfs hF => ?_) hc
  refine Oper.wp_mono (fun a' w' ⟨v, h1, h2, h3, h4⟩ => ⟨v, h1, h2, below_trans hx h3, h4, fun k _ hk hlf _ => hst k _ _ _ h3 (hfs k hk hlf)⟩) (hp wx hx fun j v hj hl hlf => ?_)
  rcases hh : L.lookup j with _ | gj
  · exact fact_none (by unfold clsOf; rw [hh]; rfl) _ _
  · refine hF j v hj hl ?_
    have hll : (L.lookup (lifeOf L j)).isSome = true := by
      obtain ⟨x, hx, e⟩ := lookup_mem hh
      have := htr x hx
      unfold lifeOf
      rw [hh]
      rw [e] at this
      exact this
    rw [Bool.or_eq_true, beq_iff_eq] at hlf
    rcases hlf with hlf | hlf
    · rw [hlf]; exact hD
    · rcases hdl : D (lifeOf L j) with _ | _
      · rfl
      · have := hcl (lifeOf L j) i hll (by rw [hG]; rfl) hdl hlf
        rw [hD] at this; cases this
theorem XT.call (c : Value) (lf : Nat) (hG : L.lookup i = some ((fun v => v = c), noFact, lf)) (him : i < m) (hst : ∀ k v w w', Below w.heap.size w w' → factOf L k v w → factOf L k v w') (hw : Region.wanted o (yielded ops a.tmps) = true) (hi : i + 1 = i')
    (hp : ∀ wx, Below w0.heap.size w0 wx → (∀ j v, preB ops i j = true → M.lookup j = some v → (lifeOf L j == i || preB ops (lifeOf L j) i) = true → factOf L j v wx) → o.wp P a wx (fun a' w' => a' = a.put o.dst c ∧ Below wx.heap.size wx w') (fun _ _ _ => False))
    (htr : ∀ x ∈ L, (L.lookup x.2.2.2).isSome = true)
    (ha : a.put o.dst c = a') (hc : Chain P ops (clsOf L) (XT ops w0 m L Fin) Qn i' rest a' ((i, c) :: M)) : Chain P ops (clsOf L) (XT ops w0 m L Fin) Qn i (o :: rest) a M := by
  subst ha
  refine XT.make (fun v => v = c) noFact lf hG him hst hw hi (fun wx hx hF => Oper.wp_mono (fun _ w' ⟨h1, h2⟩ => ⟨c, h1, rfl, h2, trivial⟩) (hp wx hx hF)) htr ?_
  rintro v rfl a' rfl
  exact hc
/-- an operation ahead of the last one that writes into what the region has made -/
theorem XT.write (C : Value → Prop) (g : Value → World → Prop) (lf : Nat) (hG : L.lookup i = some (C, g, lf)) (him : i < m) (hw : Region.wanted o (yielded ops a.tmps) = true) (hi : i + 1 = i')
    (hen : (L.all fun x => x.2.2.2 == x.1 || x.1 == i || x.2.2.2 == i || preB ops i x.2.2.2 || preB ops x.1 i) = true)
    (hp : ∀ wx, Below w0.heap.size w0 wx → (∀ j v, preB ops i j = true → M.lookup j = some v → (lifeOf L j == i || preB ops (lifeOf L j) i) = true → factOf L j v wx) → o.wp P a wx (fun a' w' => ∃ v, a' = a.put o.dst v ∧ C v ∧ Below w0.heap.size w0 w' ∧ g v w') (fun _ _ _ => False))
    (htr : ∀ x ∈ L, (L.lookup x.2.2.2).isSome = true)
    (hc : ∀ v, C v → ∀ a', a.put o.dst v = a' → Chain P ops (clsOf L) (XT ops w0 m L Fin) Qn i' rest a' ((i, v) :: M)) : Chain P ops (clsOf L) (XT ops w0 m L Fin) Qn i (o :: rest) a M := by
  refine XT.any C g lf hG him hw hi (fun vs D wx hx hD hpre hcl hfs hF => ?_) hc
  refine Oper.wp_mono (fun a' w' ⟨v, h1, h2, h3, h4⟩ => ⟨v, h1, h2, h3, h4, fun k hk1 hk hlf hk2 => ?_⟩) (hp wx hx fun j v hj hl hlf => ?_)
  rotate_left 1
  · rcases hh : L.lookup k with _ | gk
    · exact fact_none (by unfold clsOf; rw [hh]; rfl) _ _
    · exfalso
      have hmem : (k, gk) ∈ L := by
        clear hG hcl hfs hF hp htr hc hen h4 hlf hk2
        induction L with
        | nil => cases hh
        | cons x L ih =>
          obtain ⟨k', g'⟩ := x
          rw [List.lookup_cons] at hh
          split at hh
          · rename_i he
            injection hh with hh
            rw [hh, eq_of_beq he]; simp
          · exact List.mem_cons_of_mem _ (ih hh)
      rw [List.all_eq_true] at hen
      have hx2 := hen _ hmem
      have hlk : lifeOf L k = gk.2.2 := by unfold lifeOf; rw [hh]
      rw [hlk] at hlf hk2
      simp only [Bool.or_eq_true, beq_iff_eq] at hx2
      rcases hx2 with (((h | h) | h) | h) | h
      · rw [h, hk] at hlf; cases hlf
      · exact hk1 h
      · exact hk2 h
      · have := hpre _ h
        rw [this] at hlf; cases hlf
      · have := hcl k i (by rw [hh]; rfl) (by rw [hG]; rfl) hk h
        rw [hD] at this; cases this
  · rcases hh : L.lookup j with _ | gj
    · exact fact_none (by unfold clsOf; rw [hh]; rfl) _ _
    · refine hF j v hj hl ?_
      have hll : (L.lookup (lifeOf L j)).isSome = true := by
        obtain ⟨x, hx, e⟩ := lookup_mem hh
        have := htr x hx
        unfold lifeOf
        rw [hh]
        rw [e] at this
        exact this
      rw [Bool.or_eq_true, beq_iff_eq] at hlf
      rcases hlf with hlf | hlf
      · rw [hlf]; exact hD
      · rcases hdl : D (lifeOf L j) with _ | _
        · rfl
        · have := hcl (lifeOf L j) i hll (by rw [hG]; rfl) hdl hlf
          rw [hD] at this; cases this
/-- the last one -/
theorem XT.last (C : Value → Prop) (g : Value → World → Prop) (lf : Nat) (hG : L.lookup i = some (C, g, lf)) (him : i = m) (hall : ((List.range m).all fun j => preB ops m j) = true) (hw : Region.wanted o (yielded ops a.tmps) = true) (hi : i + 1 = i')
    (hp : ∀ vs wx, Below w0.heap.size w0 wx → (∀ j v, preB ops i j = true → M.lookup j = some v → ((lifeOf L j == i) = true → factOf L j v wx) ∧ vs j = v) → o.wp P a wx (fun a' w' => ∃ v, a' = a.put o.dst v ∧ C v ∧ Fin (updV vs m v) w') (fun _ _ _ => False))
    (hc : ∀ v, C v → ∀ a', a.put o.dst v = a' → Chain P ops (clsOf L) (XT ops w0 m L Fin) Qn i' rest a' ((i, v) :: M)) : Chain P ops (clsOf L) (XT ops w0 m L Fin) Qn i (o :: rest) a M := by
  subst him
  refine Chain.make C (by unfold clsOf; rw [hG]; rfl) hw hi (fun vs D wx hx hD hpre hv => ?_) hc
  have hbl : Below w0.heap.size w0 wx := by
    rcases hx.bel with h | h
    · exact h
    · rw [hD] at h; cases h
  have hdn : ∀ j, j < i → D j = true := fun j hj => by
    rw [List.all_eq_true] at hall
    exact hpre j (hall j (List.mem_range.2 hj))
  refine Oper.wp_mono (fun a' w' ⟨v, h1, h2, h4⟩ => ⟨v, h1, h2, .inr (upd_self D i), fun k j hk hj hd hpj => ?_, fun h => (by rw [upd_self] at h; cases h), fun _ => ⟨h4, fun j hj => ?_⟩⟩) (hp vs wx hbl fun j v hj hl => ⟨fun hlf => by
    have := hx.facts hD j (hpre j hj) (by rw [beq_iff_eq.1 hlf]; exact hD)
    rwa [hv j v hj hl] at this, hv j v hj hl⟩)
  · by_cases e : j = i
    · rw [e, upd_self]
    · rw [upd_ne D e]
      by_cases e2 : k = i
      · subst e2; exact hpre j hpj
      · rw [upd_ne D e2] at hd
        exact hx.cl k j hk hj hd hpj
  · rw [upd_ne D (by omega)]
    exact hdn j hj
theorem XT.end_ (hm : m < ops.size) (h : ∀ vs w, (∀ j v, M.lookup j = some v → vs j = v) → Fin vs w → Qn a w) : Chain P ops (clsOf L) (XT ops w0 m L Fin) Qn i [] a M :=
  Chain.end_ fun vs D w hD hx hv => h vs w hv (hx.fin (hD m hm)).1
end
end Go.Bar.Dv

/-
  Layer 20: plain laws: what a plan is (PlanSound).
-/
namespace Go.Bar.Pln
open Go.RowKit Go.Bar Go.Bar.Leb Go.Bar.Frm Go.Bar.Idt Go.Bar.Met

def bytes : List Mt → Int
  | [] => 0
  | m :: r => size m + bytes r
theorem bytes_append (l r : List Mt) : bytes (l ++ r) = bytes l + bytes r := by
  induction l with
  | nil => simp [bytes]
  | cons m l ih =>
    show size m + bytes (l ++ r) = size m + bytes l + bytes r
    rw [ih]; omega
/-- a plan under way -/
structure PInv (p : Pl) (b : Int) : Prop where
  lo : ∀ m ∈ p.ms, p.fr ≤ m.mn ∧ m.mx ≤ p.to_ ∧ m.lv ≤ p.lv
  at_ : p.ms ≠ [] → (∃ m ∈ p.ms, p.fr = m.mn) ∧ ∃ m ∈ p.ms, p.to_ = m.mx
  sum : bytes p.ms = b
  most : bytes p.ms ≤ 262144
  len : p.ms.length ≤ 20
theorem PInv.start : PInv pl0 0 := ⟨by simp [pl0], by simp [pl0], rfl, by decide, by decide⟩
theorem PInv.add {p : Pl} {b : Int} {m : Mt} (h : PInv p b) (hm : b + size m ≤ 262144) (hl : p.ms.length ≠ 20) : PInv (add p m) (b + size m) := by
  have hs : bytes (p.ms ++ [m]) = b + size m := by rw [bytes_append, h.sum]; simp [bytes]
  refine ⟨fun x hx => ?_, fun _ => ?_, hs, by show bytes (p.ms ++ [m]) ≤ _; rw [hs]; exact hm, by show (p.ms ++ [m]).length ≤ 20; have := h.len; simp; omega⟩
  · have hx : x ∈ p.ms ++ [m] := hx
    show min (if p.ms.length = 0 then m.mn else p.fr) m.mn ≤ x.mn ∧ x.mx ≤ max (if p.ms.length = 0 then m.mx else p.to_) m.mx ∧ x.lv ≤ max p.lv m.lv
    rcases List.mem_append.1 hx with hx | hx
    · have hne : p.ms.length ≠ 0 := fun e => by rw [List.eq_nil_of_length_eq_zero e] at hx; simp at hx
      rw [if_neg hne, if_neg hne]
      have := h.lo x hx
      omega
    · obtain rfl := List.mem_singleton.1 hx
      omega
  · show (∃ x ∈ p.ms ++ [m], min (if p.ms.length = 0 then m.mn else p.fr) m.mn = x.mn) ∧ ∃ x ∈ p.ms ++ [m], max (if p.ms.length = 0 then m.mx else p.to_) m.mx = x.mx
    by_cases h0 : p.ms.length = 0
    · rw [if_pos h0, if_pos h0]
      exact ⟨⟨m, by simp, by omega⟩, m, by simp, by omega⟩
    · rw [if_neg h0, if_neg h0]
      obtain ⟨⟨x, hx, ex⟩, y, hy, ey⟩ := h.at_ (fun e => h0 (by rw [e]; rfl))
      constructor
      · by_cases e : p.fr ≤ m.mn
        · exact ⟨x, by simp [hx], by omega⟩
        · exact ⟨m, by simp, by omega⟩
      · by_cases e : m.mx ≤ p.to_
        · exact ⟨y, by simp [hy], by omega⟩
        · exact ⟨m, by simp, by omega⟩
theorem ofGo_inv : ∀ (l : List Mt) (b s a : Int) (p : Pl), PInv p b → (∃ b', PInv (ofGo l b s a p) b') ∧ ∃ t, t.Sublist l ∧ (ofGo l b s a p).ms = p.ms ++ t
  | [], b, s, a, p, h => ⟨⟨b, h⟩, [], .slnil, by simp [ofGo]⟩
  | m :: l, b, s, a, p, h => by
    unfold ofGo
    split
    · exact ⟨⟨b, h⟩, [], List.nil_sublist _, by simp⟩
    · rename_i ho
      unfold over at ho
      have h1 : b + size m ≤ 262144 := by
        by_cases e : 262144 < b + size m
        · exact absurd (.inl e) ho
        · omega
      have h2 : p.ms.length ≠ 20 := fun e => ho (.inr (.inr (.inr e)))
      obtain ⟨g1, t, ht, e⟩ := ofGo_inv l (b + size m) (s + m.sr) (a + m.sm) (add p m) (h.add h1 h2)
      exact ⟨g1, m :: t, ht.cons_cons m, by rw [e]; show p.ms ++ [m] ++ t = _; simp⟩
/-- the plan of a group -/
theorem of_inv (l : List Mt) : (∃ b, PInv { of l with lv := (ofGo l 0 0 0 pl0).lv } b) ∧ (of l).ms.Sublist l ∧ (of l).lv = min ((ofGo l 0 0 0 pl0).lv + 1) 9 := by
  obtain ⟨g1, t, ht, e⟩ := ofGo_inv l 0 0 0 pl0 PInv.start
  refine ⟨g1, ?_, rfl⟩
  show (ofGo l 0 0 0 pl0).ms.Sublist l
  rw [e]
  exact ht

theorem base_dvd (m : Mt) (wide : Int) : ∃ k, base m wide = k * wide := ⟨m.mn.tdiv wide, by
  unfold base
  have := Int.tmod_add_mul_tdiv m.mn wide
  rw [Int.mul_comm] at this
  omega⟩
/-- numbers of one range -/
theorem same_range {k wide x y wd : Int} (hw : 0 < wd) (hwide : wide = wd * 3 ∨ wide = wd * 9) (hx : k * wide ≤ x) (hxy : x ≤ y) (hy : y < k * wide + wide) (h0 : 0 ≤ x) : x.tdiv (9 * wd) = y.tdiv (9 * wd) := by
  have hwp : 0 < wide := by rcases hwide with h | h <;> omega
  rw [Int.tdiv_eq_ediv_of_nonneg h0, Int.tdiv_eq_ediv_of_nonneg (by omega)]
  have h1 : ∀ z, k * wide ≤ z → z < k * wide + wide → z / wide = k := fun z h1 h2 => by
    have a1 : k ≤ z / wide := Int.le_ediv_of_mul_le hwp h1
    have a2 : z / wide < k + 1 := Int.ediv_lt_of_lt_mul hwp (by rw [Int.add_mul]; omega)
    omega
  have e1 := h1 x hx (by omega)
  have e2 := h1 y (by omega) hy
  rcases hwide with h | h
  · have h3 : 9 * wd = wide * 3 := by omega
    rw [h3, ← Int.ediv_ediv_of_nonneg (by omega), ← Int.ediv_ediv_of_nonneg (by omega), e1, e2]
  · rw [show 9 * wd = wide by omega, e1, e2]
theorem tryP_some {F : List Mt} {wide : Int} {i : Nat} {p : Pl} (h : tryP F wide i = some p) : p = of (group F wide i) ∧ 1 < p.ms.length := by
  unfold tryP at h
  split at h
  · rename_i h1
    injection h with h
    subst h
    exact ⟨rfl, h1⟩
  · cases h
theorem nextOf_some {F : List Mt} {wd : Int} {p : Pl} (hw : 1 ≤ wd) (h : nextOf F wd = some p) : ∃ wide i, (wide = wd * 3 ∨ wide = wd * 9) ∧ p = of (group F wide i) ∧ 1 < p.ms.length := by
  unfold nextOf at h
  rw [Int.max_eq_left hw] at h
  have hh : ∀ wide, nextIn F wide = some p → ∃ i, p = of (group F wide i) ∧ 1 < p.ms.length := fun wide hn => by
    unfold nextIn at hn
    obtain ⟨i, _, hi⟩ := List.exists_of_findSome?_eq_some hn
    exact ⟨i, tryP_some hi⟩
  rcases h3 : nextIn F (wd * 3) with _ | p3
  · rw [h3, Option.none_or] at h
    obtain ⟨i, h1, h2⟩ := hh _ h
    exact ⟨_, i, .inr rfl, h1, h2⟩
  · rw [h3, Option.some_or] at h
    injection h with h
    subst h
    obtain ⟨i, h1, h2⟩ := hh _ h3
    exact ⟨_, i, .inl rfl, h1, h2⟩
/-- what a plan is -/
structure Sound (L : List Mt) (mk : Marks) (wd : Int) (p : Pl) : Prop where
  mem : ∀ m ∈ p.ms, m ∈ L ∧ gone L m.id = 0 ∧ mk m.id = none ∧ p.fr ≤ m.mn ∧ m.mx ≤ p.to_
  most : bytes p.ms ≤ 262144
  two : 1 < p.ms.length
  len : p.ms.length ≤ 20
  rng : p.fr.tdiv (9 * wd) = (p.to_ - 1).tdiv (9 * wd)
  lv : 2 ≤ p.lv ∧ p.lv ≤ 9
  ap : Apart p.ms
  fr : 0 ≤ p.fr ∧ p.fr < p.to_ ∧ p.to_ ≤ 1000000
theorem sound {L : List Mt} {mk : Marks} {wd : Int} {p : Pl} (hL : Lst L) (hmx : ∀ m ∈ L, m.mn < m.mx ∧ 1 ≤ m.lv) (hw : 1 ≤ wd) (h : next L mk wd = some p) : Sound L mk wd p := by
  obtain ⟨wide, i, hwide, hp, h2⟩ := nextOf_some hw h
  obtain ⟨⟨b, hI⟩, hsub, hlv⟩ := of_inv (group (free L mk) wide i)
  rw [← hp] at hI hsub hlv
  have hgm : ∀ m ∈ p.ms, m ∈ group (free L mk) wide i := fun m hm => hsub.subset hm
  have hfm : ∀ m ∈ p.ms, m ∈ free L mk := fun m hm => List.mem_of_mem_drop (List.mem_filter.1 (hgm m hm)).1
  have hne : p.ms ≠ [] := fun e => by rw [e] at h2; simp at h2
  obtain ⟨⟨x, hx, ex⟩, y, hy, ey⟩ := hI.at_ hne
  have ex : p.fr = x.mn := ex
  have ey : p.to_ = y.mx := ey
  have hlo : ∀ m ∈ p.ms, p.fr ≤ m.mn ∧ m.mx ≤ p.to_ ∧ m.lv ≤ (ofGo (group (free L mk) wide i) 0 0 0 pl0).lv := hI.lo
  obtain ⟨k, hk⟩ := base_dvd ((free L mk).getD i ⟨[], 0, 0, 0, 0, 0, [], []⟩) wide
  have hin : ∀ m ∈ p.ms, base m wide = k * wide ∧ m.mx ≤ k * wide + wide := fun m hm => by
    have h1 := (List.mem_filter.1 (hgm m hm)).2
    unfold inG at h1
    rw [Bool.and_eq_true, decide_eq_true_eq, decide_eq_true_eq, hk] at h1
    exact h1
  have hxL := (free_mem (hfm x hx)).1
  have hyL := (free_mem (hfm y hy)).1
  have hsx := hL.sm x hxL
  have hsy := hL.sm y hyL
  have hbx : base x wide ≤ x.mn := by
    unfold base
    have := Int.tmod_nonneg wide hsx.mn.1
    omega
  have g1 := hin x hx
  have g2 := hin y hy
  have g3 := hlo x hx
  have g4 := (hmx x hxL).1
  have hap : Apart (free L mk) := by
    have ha := asc_apart (freeU_asc mk hL)
    exact (srt_perm (freeU L mk)).pairwise_iff (R := fun a b : Mt => a.id ≠ b.id) (fun h e => h e.symm) |>.2 ha
  refine ⟨fun m hm => ?_, hI.most, h2, hI.len, ?_, ?_, ?_, ?_⟩
  · obtain ⟨a1, a2, a3⟩ := free_mem (hfm m hm)
    exact ⟨a1, a2, a3, (hlo m hm).1, (hlo m hm).2.1⟩
  · exact same_range (k := k) (wide := wide) (by omega) hwide (by omega) (by omega) (by omega) (by have := hsx.mn; omega)
  · have := (hmx x hxL).2
    rw [hlv]
    omega
  · exact hap.sublist (hsub.trans ((List.filter_sublist).trans (List.drop_sublist _ _)))
  · have := hsx.mn; have := hsy.mx
    omega
end Go.Bar.Pln

/-
  Layer 20: plain laws: plans come to an end (PlanEnds).
-/
namespace Go.Bar.Pln
open Go.RowKit Go.Bar Go.Bar.Leb Go.Bar.Frm Go.Bar.Idt Go.Bar.Met Go.Bar.Pln

theorem gone_snoc (L : List Mt) (m : Mt) (id : List UInt8) : gone (L ++ [m]) id = gone L id + m.ss.count id := by
  unfold gone
  rw [srcs_append, List.count_append]
  simp [srcs]
theorem plan_sub {L : List Mt} {mk : Marks} {wd : Int} {p : Pl} (hw : 1 ≤ wd) (h : next L mk wd = some p) : p.ms.Sublist (free L mk) := by
  obtain ⟨wide, i, hwide, hp, h2⟩ := nextOf_some hw h
  obtain ⟨_, hsub, _⟩ := of_inv (group (free L mk) wide i)
  rw [← hp] at hsub
  exact hsub.trans ((List.filter_sublist).trans (List.drop_sublist _ _))
/-- those of a list -/
def inI (I : List (List UInt8)) (x : Mt) : Bool := decide (x.id ∈ I)
theorem plan_count {L : List Mt} {mk : Marks} {p : Pl} (h : p.ms.Sublist (free L mk)) : p.ms.length ≤ ((freeU L mk).filter (inI (p.ms.map (·.id)))).length := by
  have h1 := h.filter (inI (p.ms.map (·.id)))
  have h2 : p.ms.filter (inI (p.ms.map (·.id))) = p.ms := List.filter_eq_self.2 fun x hx => decide_eq_true (List.mem_map_of_mem hx)
  rw [h2] at h1
  have h3 := ((srt_perm (freeU L mk)).filter (inI (p.ms.map (·.id)))).length_eq
  have h4 := h1.length_le
  unfold free at h4
  omega
theorem filter_parts (l : List Mt) (q : Mt → Bool) : (l.filter q).length + (l.filter (fun x => !q x)).length = l.length := by
  induction l with
  | nil => rfl
  | cons x r ih =>
    rw [List.filter_cons, List.filter_cons]
    cases q x <;> simp <;> omega
theorem freeU_snoc {L : List Mt} {mk : Marks} {m : Mt} {I : List (List UInt8)} (hss : m.ss.Perm I) : (freeU (L ++ [m]) mk).length ≤ ((freeU L mk).filter (fun x => !inI I x)).length + 1 := by
  have h : freeU (L ++ [m]) mk = (freeU L mk).filter (fun x => !inI I x) ++ ([m].filter (fun x => gone (L ++ [m]) x.id == 0)).filter (fun x => (mk x.id).isNone) := by
    unfold freeU live
    rw [List.filter_append, List.filter_append, List.filter_filter, List.filter_filter, List.filter_filter, List.filter_filter]
    congr 1
    refine List.filter_congr fun x _ => ?_
    rw [gone_snoc]
    by_cases hx : x.id ∈ I
    · have h1 : 0 < m.ss.count x.id := List.count_pos_iff.2 (hss.mem_iff.2 hx)
      have h2 : (gone L x.id + m.ss.count x.id == 0) = false := by rw [beq_eq_false_iff_ne]; omega
      have h3 : inI I x = true := decide_eq_true hx
      rw [h2, h3, Bool.and_false]
      rfl
    · have h1 : m.ss.count x.id = 0 := List.count_eq_zero_of_not_mem (fun h => hx (hss.mem_iff.1 h))
      have h3 : inI I x = false := decide_eq_false hx
      rw [h1, h3, Nat.add_zero]
      simp [Bool.and_comm]
  rw [h, List.length_append]
  have h1 : (([m].filter (fun x => gone (L ++ [m]) x.id == 0)).filter (fun x => (mk x.id).isNone)).length ≤ 1 := Nat.le_trans (List.length_filter_le _ _) (List.length_filter_le _ _)
  omega
/-- with a block more that has a plan's blocks as sources there are fewer free ones, and these are to be marked -/
theorem ends {L : List Mt} {mk : Marks} {wd : Int} {p : Pl} {m : Mt} (hw : 1 ≤ wd) (hmk : mk m.id = none) (hss : m.ss.Perm (p.ms.map (·.id))) (hp : next L mk wd = some p) (h2 : 1 < p.ms.length) :
    (freeU (L ++ [m]) mk).length + 1 ≤ (freeU L mk).length ∧ p.ms.length ≤ (toMark (L ++ [m]) mk).length ∧ 2 ≤ (freeU L mk).length := by
  have hsub := plan_sub hw hp
  have h1 := plan_count hsub
  have h3 := filter_parts (freeU L mk) (inI (p.ms.map (·.id)))
  have h4 := freeU_snoc (L := L) (mk := mk) hss
  refine ⟨by omega, Nat.le_trans h1 ?_, by omega⟩
  unfold toMark
  rw [List.length_map]
  unfold freeU live
  rw [List.filter_filter, List.filter_filter, ← List.countP_eq_length_filter, ← List.countP_eq_length_filter, List.countP_append]
  refine Nat.le_trans (List.countP_mono_left (q := fun x => decide (0 < gone (unmarked (L ++ [m]) mk) x.id) && (mk x.id).isNone) fun x _ hx => ?_) (Nat.le_add_right _ _)
  have a1 : inI (p.ms.map (·.id)) x = true := by simp only [Bool.and_eq_true] at hx; exact hx.1.1
  have a2 : (mk x.id).isNone = true := by simp only [Bool.and_eq_true] at hx; exact hx.1.2
  rw [Bool.and_eq_true, decide_eq_true_eq]
  refine ⟨?_, a2⟩
  have e : unmarked (L ++ [m]) mk = unmarked L mk ++ [m] := by
    unfold unmarked
    rw [List.filter_append]
    congr 1
    rw [List.filter_cons, hmk]
    rfl
  rw [e, gone_snoc]
  have : 0 < m.ss.count x.id := List.count_pos_iff.2 (hss.mem_iff.2 (of_decide_eq_true a1))
  omega
theorem rank_of (L : List Mt) (mk : Marks) : rank L mk = max (((freeU L mk).length : Int) - 1) 0 := by
  unfold rank free
  rw [(srt_perm _).length_eq]
/-- the next block -/
def nxM (id : List UInt8) (p : Pl) (I : List (List UInt8)) : Mt := ⟨id, p.fr, p.to_, p.lv, 1, 1, [⟨chunksN, 10, 0⟩, ⟨indexN, 10, 0⟩], I⟩
/-- where the turns stand -/
structure Turn (L : List Mt) (mk : Marks) (t : Nat) : Prop where
  lst : Lst L
  wide : ∀ m ∈ L, m.mn < m.mx ∧ 1 ≤ m.lv
  below : ∀ m ∈ L, m.id < Idt.mk 2 t
  len : L.length ≤ 12 + t
  free : (freeU L mk).length + t ≤ 12
  marks : ∀ t, t < 1000 → mk (Idt.mk 2 t) = none
theorem Turn.step {L : List Mt} {mk : Marks} {wd : Int} {p : Pl} {t : Nat} {I : List (List UInt8)} (h : Turn L mk t) (hw : 1 ≤ wd) (hp : next L mk wd = some p) (hI : I.Perm (p.ms.map (·.id))) :
    t ≤ 10 ∧ Turn (L ++ [nxM (Idt.mk 2 t) p I]) mk (t + 1) ∧ rank (L ++ [nxM (Idt.mk 2 t) p I]) mk < rank L mk ∧ p.ms.length ≤ (toMark (L ++ [nxM (Idt.mk 2 t) p I]) mk).length := by
  have hS := sound h.lst h.wide hw hp
  have ht := h.free
  have he := ends (m := nxM (Idt.mk 2 t) p I) hw (by
    have hf : 2 ≤ (freeU L mk).length := by
      have h1 := plan_count (plan_sub hw hp)
      have h3 := filter_parts (freeU L mk) (inI (p.ms.map (·.id)))
      have := hS.two
      omega
    exact h.marks t (by omega)) hI hp hS.two
  obtain ⟨e1, e2, e3⟩ := he
  have hfr := hS.fr
  have hlv := hS.lv
  have hlen := hS.len
  have hlt : Idt.mk 2 t < Idt.mk 2 (t + 1) := by
    have := less_mk 2 t 2 (t + 1) (by decide) (by omega) (by decide) (by omega)
    rw [Lab.less_eq] at this
    refine of_decide_eq_true (this.trans ?_)
    simp
  refine ⟨by omega, ⟨⟨fun m hm => ?_, ?_, ?_⟩, fun m hm => ?_, fun m hm => ?_, ?_, by omega, h.marks⟩, ?_, e2⟩
  · rcases List.mem_append.1 hm with hm | hm
    · exact h.lst.sm m hm
    · obtain rfl := List.mem_singleton.1 hm
      refine ⟨by show (Idt.mk 2 t).length ≤ 1000; rw [mk_length]; decide, fun s hs => ?_, ?_, ⟨hfr.1, by show p.fr ≤ 1000000; omega⟩, ⟨by show 0 ≤ p.to_; omega, hfr.2.2⟩, ⟨by show 0 ≤ p.lv; omega, by show p.lv ≤ 1000; omega⟩, ⟨by show (0 : Int) ≤ 1; decide, by show (1 : Int) ≤ 1000000; decide⟩, ⟨by show (0 : Int) ≤ 1; decide, by show (1 : Int) ≤ 1000000; decide⟩, ⟨chunksN, 10, 0⟩, ⟨indexN, 10, 0⟩, rfl, by decide, by decide, by decide, by decide⟩
      · obtain ⟨y, hy, rfl⟩ := List.mem_map.1 (hI.mem_iff.1 hs)
        exact (h.lst.sm y (hS.mem y hy).1).id
      · show I.length ≤ 1000
        rw [hI.length_eq, List.length_map]; omega
  · rw [List.length_append]
    have := h.len
    show L.length + 1 ≤ 1000
    omega
  · rw [List.pairwise_append]
    refine ⟨h.lst.asc, by simp, fun a ha b hb => ?_⟩
    obtain rfl := List.mem_singleton.1 hb
    exact h.below a ha
  · rcases List.mem_append.1 hm with hm | hm
    · exact h.wide m hm
    · obtain rfl := List.mem_singleton.1 hm
      exact ⟨hfr.2.1, by show 1 ≤ p.lv; omega⟩
  · rcases List.mem_append.1 hm with hm | hm
    · exact List.lt_trans (h.below m hm) hlt
    · obtain rfl := List.mem_singleton.1 hm
      exact hlt
  · rw [List.length_append]
    have := h.len
    show L.length + 1 ≤ 12 + (t + 1)
    omega
  · rw [rank_of, rank_of]
    omega
theorem Turn.stops {L : List Mt} {mk : Marks} {wd : Int} {t : Nat} (h : Turn L mk t) (hw : 1 ≤ wd) (ht : 11 ≤ t) : next L mk wd = none := by
  rcases hn : next L mk wd with _ | p
  · rfl
  · have := (h.step hw hn (List.Perm.refl _)).1
    omega
end Go.Bar.Pln

namespace Go.Proofs.Ytemmgejaoegpfaa
open Go.RowKit Go.Bar Go.Bar.Leb Go.Bar.Frm Go.Bar.Idt Go.Bar.Met Go.Bar.Pln

theorem MsAt.fr_txt {w w' : World} {S : Nat → Nat → Prop} {v : Value} {l : List Mt} (h : MsAt w w v l) (hf : Fr S w w') (hS : ∀ k i, S k i → ∃ T cur, Blk w k T cur ∧ ∀ (j : Nat) (s : ByteArray), cur[j]? ≠ some (.string s)) : MsAt w' w' v l := by
  obtain ⟨xs, h1, h2, h3⟩ := h
  refine ⟨xs, h1, SlAt.fr_txt h2 hf hS (fun hn => ?_), fun x hx => MAt.fr_txt (h3 x hx) hf hS⟩
  cases xs with
  | nil => simp at hn
  | cons x r => exact ⟨_, rfl⟩
theorem mkL_wide4 {wd : Int} (h1 : 1 ≤ wd) (L : List On) : ∀ m ∈ mkL wd L, m.mn < m.mx ∧ 1 ≤ m.lv := by
  intro m hm
  unfold mkL at hm
  obtain ⟨p, hp, rfl⟩ := List.mem_map.1 hm
  show p.1.fr % 16 * wd < p.1.fr % 16 * wd + (1 + p.1.wi % 4) * wd ∧ 1 ≤ 1 + p.1.wi % 4
  have h2 : 0 ≤ p.1.wi % 4 := Int.emod_nonneg _ (by omega)
  have h3 : 0 < (1 + p.1.wi % 4) * wd := Int.mul_pos (by omega) (by omega)
  exact ⟨by omega, by omega⟩
theorem mkL_turn {wd : Int} (h1 : 1 ≤ wd) (h2 : wd ≤ 1000) (L : List On) (hL : L.length ≤ 12) : Turn (mkL wd L) (mkF L) 0 where
  lst := mkL_lst h1 h2 L (by omega)
  wide := mkL_wide4 h1 L
  below m hm := by
    unfold mkL at hm
    obtain ⟨p, hp, rfl⟩ := List.mem_map.1 hm
    rw [List.mem_zipIdx_iff_getElem?] at hp
    have hlt : p.2 < L.length := (List.getElem?_eq_some_iff.1 hp).1
    have := less_mk 1 p.2 2 0 (by decide) (by omega) (by decide) (by decide)
    rw [Lab.less_eq] at this
    exact of_decide_eq_true (this.trans (by simp))
  len := by rw [mkL_len]; omega
  free := by have := freeU_len (mkL wd L) (mkF L); rw [mkL_len] at this; omega
  marks t ht := by
    have : isMk L (mk 2 t) = false := by
      unfold isMk
      rw [List.any_eq_false]
      intro p hp hc
      rw [Bool.and_eq_true, beq_iff_eq] at hc
      rw [List.mem_zipIdx_iff_getElem?] at hp
      have hlt : p.2 < L.length := (List.getElem?_eq_some_iff.1 hp).1
      have := less_mk 1 p.2 2 t (by decide) (by omega) (by decide) (by omega)
      rw [hc.2, Lab.less_eq, decide_eq_false (Lab.b_irrefl _)] at this
      simp at this
    unfold mkF
    rw [this]; rfl

/-- the listing's value, and what lies behind it -/
def LiF (K : Nat) (L' : List Mt) (mf : Marks) (v : Value) (w' : World) : Prop := ∀ A c b, v = .agg #[.int .i64 5, .slice A K c, .map (some b)] → MsAt w' w' (.slice A K c) L' ∧ Mp w' b 12 mf
theorem LiF.below {K : Nat} {L' : List Mt} {mf : Marks} {v : Value} {w w' : World} (h : LiF K L' mf v w) (hb : Below w.heap.size w w') : LiF K L' mf v w' := fun A c b he => ⟨((h A c b he).1.below hb).base hb, (h A c b he).2.below hb⟩
/-- behind the store of a new listing -/
def FinL (w0 : World) (X0 PB K : Nat) (pcur : Array Value) (L' : List Mt) (mf : Marks) (_vs : Nat → Value) (w' : World) : Prop := ∃ A c b, Blk w' X0 26 #[.int .i64 5, .slice A K c, .map (some b)] ∧ MsAt w' w' (.slice A K c) L' ∧ Mp w' b 12 mf ∧ Blk w' PB 33 pcur ∧ Below w0.heap.size w0 w'
theorem FinL.of {w0 wx : World} {X0 PB K b : Nat} {pcur : Array Value} {L' : List Mt} {mf : Marks} {A mA : Option Addr} {c mc n0 mb : Nat} (hL : Blk wx X0 26 #[.int .i64 5, .slice mA n0 mc, .map (some mb)]) (hP : Blk wx PB 33 pcur) (hne : PB ≠ X0) (hm : MsAt wx wx (.slice A K c) L') (hp : Mp wx b 12 mf)
    (hX : w0.heap.size ≤ X0) (hb : Below w0.heap.size w0 wx) (vs : Nat → Value) : FinL w0 X0 PB K pcur L' mf vs (((wx.setCell ⟨X0, 0, none⟩ (.int .i64 5)).setCell ⟨X0, 1, none⟩ (.slice A K c)).setCell ⟨X0, 2, none⟩ (.map (some b))) := by
  refine ⟨A, c, b, ((hL.set 0 _).set 1 _).set 2 _, ?_, ((hp.set _ _ _).set _ _ _).set _ _ _, ((hP.other hne _ _).other hne _ _).other hne _ _, ((hb.setCell (p := ⟨X0, 0, none⟩) hX _).setCell (p := ⟨X0, 1, none⟩) hX _).setCell (p := ⟨X0, 2, none⟩) hX _⟩
  have hf : Fr (fun k _ => k = X0) wx (((wx.setCell ⟨X0, 0, none⟩ (.int .i64 5)).setCell ⟨X0, 1, none⟩ (.slice A K c)).setCell ⟨X0, 2, none⟩ (.map (some b))) := (((Fr.refl (fun k _ => k = X0) wx).setCell (fun _ => rfl) _).setCell (fun _ => rfl) _).setCell (fun _ => rfl) _
  refine hm.fr_txt hf (fun k i hk => ?_)
  have hk' : k = X0 := hk
  rw [hk']
  refine ⟨_, _, hL, fun j s => ?_⟩
  rcases j with _ | _ | _ | j <;> simp

/-- the meta of a plan's blocks as one, in memory -/
def FinM (w8 : World) (id : List UInt8) (fr to_ lv : Int) (n : Nat) (I : List (List UInt8)) (vs : Nat → Value) (w' : World) : Prop := ∃ (B g : Nat) (A : Option Addr) (c : Nat), vs 13 = .pointer (some ⟨B, 0, none⟩) ∧ vs 9 = .slice (some ⟨g, 0, none⟩) 2 2 ∧ vs 11 = .slice A n c ∧ w8.heap.size ≤ B ∧ Below w8.heap.size w8 w' ∧ Blk w' B 55 #[.string (bs id), .int .i64 fr, .int .i64 to_, .int .i64 lv, .int .i64 1, .int .i64 1, vs 9, vs 11] ∧ FlsAt w' (vs 9) [⟨chunksN, 10, 0⟩, ⟨indexN, 10, 0⟩] ∧ SlAt w' 1 (vs 11) n (scs I)
theorem FinM.of {w8 wx : World} {id : List UInt8} {fr to_ lv : Int} {n : Nat} {I : List (List UInt8)} {vs : Nat → Value} {B g : Nat} {A : Option Addr} {c : Nat} (q9 : vs 9 = .slice (some ⟨g, 0, none⟩) 2 2) (q11 : vs 11 = .slice A n c) (q13 : vs 13 = .pointer (some ⟨B, 0, none⟩)) (hB : w8.heap.size ≤ B) (hw : Below w8.heap.size w8 wx)
    (f9 : FBuf w8 wx 59 3 (.slice (some ⟨g, 0, none⟩) 2 2) 2 (fcs [⟨chunksN, 10, 0⟩, ⟨indexN, 10, 0⟩])) (f11 : FBuf w8 wx 9 1 (.slice A n c) n (scs I)) (f13 : Blk wx B 55 #[.string ByteArray.empty, .int .i64 0, .int .i64 0, .int .i64 0, .int .i64 0, .int .i64 0, .slice none 0 0, .slice none 0 0]) (v : Value) :
    FinM w8 id fr to_ lv n I (Dv.updV vs 14 v) (st8 wx B (.string (bs id)) (.int .i64 fr) (.int .i64 to_) (.int .i64 lv) (.int .i64 1) (.int .i64 1) (.slice (some ⟨g, 0, none⟩) 2 2) (.slice A n c)) := by
  refine ⟨B, g, A, c, ?_, ?_, ?_, hB, Go.Bar.Below.st8 hw hB, ?_, ?_, ?_⟩
  · rw [Dv.updV_ne _ _ (by decide), q13]
  · rw [Dv.updV_ne _ _ (by decide), q9]
  · rw [Dv.updV_ne _ _ (by decide), q11]
  · rw [Dv.updV_ne _ _ (by decide), Dv.updV_ne _ _ (by decide), q9, q11]; exact f13.st8
  · rw [Dv.updV_ne _ _ (by decide), q9]; exact (f9.st8 f13 (by decide)).slice
  · rw [Dv.updV_ne _ _ (by decide), q11]; exact (f11.st8 f13 (by decide)).slice

set_option maxHeartbeats 8000000 in
set_option maxRecDepth 10000 in
theorem planEnds_walk0 (v : Value) (l : List On) (z : Int) (hz : (Lit.int .i64 z).wf = true) (w : World) (h : OnsAt w v l) :
    Calls Try.prog 6 #[v, .int .i64 z] w (RetBelow w (.bool true)) := by
  have hwd := wdOf_rng z
  have ht := tmod_small z
  have e1 : IntKind.i64.wrap (z.tmod 1000 + 1000) = z.tmod 1000 + 1000 := by rw [IntKind.wrap_i64]; omega
  have e2 : IntKind.i64.wrap (1 + (z.tmod 1000 + 1000).tmod 1000) = wdOf z := by
    have : 1 + (z.tmod 1000 + 1000).tmod 1000 = wdOf z := rfl
    rw [this, IntKind.wrap_i64]; omega
  have e3 : IntKind.i64.wrap (1 + (z.tmod 1000 + 1000) % 1000) = wdOf z := by
    rw [← Int.tmod_eq_emod_of_nonneg (by omega)]; exact e2
  have e4 : 1 + z.tmod 1000 % 1000 = wdOf z := by
    unfold wdOf
    rw [Int.tmod_eq_emod_of_nonneg (a := z.tmod 1000 + 1000) (by omega)]
    omega
  have hl := fun w' (hb : Below w.heap.size w w') => listing_any v l (wdOf z) w' (h.below hb) hwd.1 hwd.2
  have HL := Lib.hid hl
  have hlst := mkL_lst hwd.1 hwd.2 (l.take 12) (by rw [List.length_take]; omega)
  have h20 : (freeU (mkL (wdOf z) (l.take 12)) (mkF (l.take 12))).length < 20 := Nat.lt_of_le_of_lt (freeU_len _ _) (by rw [mkL_len, List.length_take]; omega)
  have htn := mkL_turn hwd.1 hwd.2 (l.take 12) (by rw [List.length_take]; omega)
  obtain ⟨L, hL⟩ : ∃ L, L = mkL (wdOf z) (l.take 12) := ⟨_, rfl⟩
  obtain ⟨mf, hmf⟩ : ∃ mf, mf = mkF (l.take 12) := ⟨_, rfl⟩
  rw [← hL] at HL hlst h20 htn
  rw [← hmf] at HL h20 htn
  obtain ⟨wd, hwd'⟩ : ∃ wd, wd = wdOf z := ⟨_, rfl⟩
  rw [← hwd'] at HL hwd e2 e3 e4
  have HTN := Lib.hid htn
  clear hl hL hmf hwd' h20 hlst htn
  obtain ⟨A, c, rfl, _, _⟩ := h.shape
  go_enter Try.func6, Try.ntmps6
  go_wp2_with fail
  refine (HL.out _ (Below.refl _ _)).mono ?_
  rintro e w1 ⟨lv, tv, rfl, hli, hbl, hb1⟩
  obtain ⟨mv, mb, rfl, hms, hmp⟩ := hli
  obtain ⟨mA, mc, rfl, _⟩ := hms.shape
  obtain ⟨ts, ht1, ht2, _⟩ := hbl
  obtain ⟨tA, tc, rfl, _⟩ := ht2.shape
  clear ht1 ht2 e1 e2 e3 e4 HL
  have b2 := below_trans (below_al w1 (.cells #[.int .i64 5, .slice mA L.length mc, .map (some mb)] 26)) (below_al _ (.cells #[.int .i64 5, .slice tA ts.length tc] 29))
  have L2 := (Blk.new w1 #[.int .i64 5, .slice mA L.length mc, .map (some mb)] 26).below (below_al _ (.cells #[.int .i64 5, .slice tA ts.length tc] 29))
  have B2 := below_trans hb1 b2
  have hX0 : w.heap.size ≤ w1.heap.size := hb1.size
  have ms2 := (hms.below b2).base b2
  have mp2 := hmp.below b2
  clear hb1 b2 hms hmp
  go_upto_region 3 with fail
  obtain ⟨w2, hw2⟩ : ∃ w2, w2 = (w1.alloc (.cells #[.int .i64 5, .slice mA L.length mc, .map (some mb)] 26)).alloc (.cells #[.int .i64 5, .slice tA ts.length tc] 29) := ⟨_, rfl⟩
  rw [← hw2] at L2 B2 ms2 mp2 ⊢
  clear hw2
  go_wp2_with fail
  refine (awake_any _).mono ?_
  rintro e w3 ⟨rfl, hb3⟩
  have L3 := L2.below hb3
  have B3 := below_trans B2 hb3
  have ms3 := (ms2.below hb3).base hb3
  have mp3 := mp2.below hb3
  clear L2 B2 ms2 mp2 hb3
  obtain ⟨X0, hX0e⟩ : ∃ X0, X0 = w1.heap.size := ⟨_, rfl⟩
  rw [← hX0e] at L3 hX0
  go_wp2_with fail
  rw [← hX0e]
  clear hX0e
  go_loopw [7] (fun tv wr => ∃ (t : Nat) (L : List Mt) (mA : Option Addr) (mc mb : Nat), tv = .int .i64 t ∧ t ≤ 11 ∧ Hid (Turn L mf t) ∧ Blk wr X0 26 #[.int .i64 5, .slice mA L.length mc, .map (some mb)] ∧ MsAt wr wr (.slice mA L.length mc) L ∧ Mp wr mb 12 mf ∧ Below w.heap.size w wr) (fun tv _ => 13 - (intOf tv).toNat)
  case atStart => exact ⟨0, L, mA, mc, mb, rfl, by omega, HTN, L3, ms3, mp3, B3⟩
  case round =>
    obtain ⟨t, L, mA, mc, mb, rfl, ht11, HTU, hL4, ms4, mp4, B4⟩ := hrel
    clear L3 ms3 mp3 B3 HTN
    have hlst := HTU.out.lst
    have h20 : (freeU L mf).length < 20 := by have := HTU.out.free; omega
    have hst := fun p I => HTU.out.step (wd := wd) (p := p) (I := I) hwd.1
    have hsd := fun p => sound (mk := mf) (p := p) hlst HTU.out.wide hwd.1
    have hnx := fun (mv : Value) (mb n : Nat) (w' : World) (h1 : MsAt w' w' mv L) (h2 : Mp w' mb n mf) => next_any 5 wd mv L mb n mf w' w' (Below.refl _ _) h1 h2 hlst h20 (by omega)
    have hrk := fun (mv : Value) (mb n : Nat) (w' : World) (h1 : MsAt w' w' mv L) (h2 : Mp w' mb n mf) => rank_any 5 mv L mb n mf w' w' (Below.refl _ _) h1 h2 hlst h20
    obtain ⟨on, hon⟩ : ∃ on, on = next L mf wd := ⟨_, rfl⟩
    rw [← hon] at hnx
    have HNX := Lib.hid hnx
    have HRK := Lib.hid hrk
    have HLST := Lib.hid hlst
    have ht13 : (t : Int) < 13 := by omega
    obtain ⟨g0, g1, g2⟩ := hL4.c3
    clear hnx hrk hlst
    rcases on with _ | P
    · clear hst hsd hon
      go_wp2_with fail
      refine (HNX.out _ _ 12 wr ms4 mp4).mono ?_
      rintro e w5 ⟨pv, rfl, hpv⟩
      have b5 := below_trans B4 hpv.below_
      obtain ⟨pA, pc, rfl, _⟩ := hpv.shape
      unfold plV
      dsimp only [Option.getD_none, Option.isSome_none]
      unfold pl0
      dsimp only
      rw [List.length_nil]
      have HB := Lib.hid (below_trans b5 (below_al w5 (.cells #[.int .i64 0, .int .i64 0, .int .i64 0, .slice pA 0 pc] 33)))
      clear hpv b5 B4 g0 g1 g2
      go_wp2_with fail
      go_ret
      exact ⟨rfl, HB.out⟩
    · have hS := hsd P hon.symm
      have hT := fun I hI => hst P I hon.symm hI
      have hsm : ∀ m ∈ P.ms, Sm m := fun m hm => HLST.out.sm m (hS.mem m hm).1
      have hnm := fun (v : Value) (w' : World) (h1 : MsAt w' w' v P.ms) => names_any P v w' h1 (by have := hS.len; omega) hsm
      have hfr := hS.fr
      have hlv := hS.lv
      have hlen := hS.len
      have htwo := hS.two
      obtain ⟨I, hI⟩ : ∃ I, I = srtS (P.ms.map (·.id)) := ⟨_, rfl⟩
      rw [← hI] at hnm
      have hIl : I.length = P.ms.length := by rw [hI, srtS_len, List.length_map]
      obtain ⟨ht10, hTU2, hrank, hmark⟩ := hT I (by rw [hI]; exact srtS_perm _)
      obtain ⟨mt, hmt⟩ : ∃ mt, mt = nxM (mk 2 t) P I := ⟨_, rfl⟩
      rw [← hmt] at hTU2 hrank hmark
      obtain ⟨fr, to_, lv, ms⟩ := P
      dsimp only at *
      have hmte : mt = ⟨mk 2 t, fr, to_, lv, 1, 1, [⟨chunksN, 10, 0⟩, ⟨indexN, 10, 0⟩], I⟩ := hmt
      obtain ⟨n, hn⟩ : ∃ n, n = ms.length := ⟨_, rfl⟩
      rw [← hn] at hIl hmark hlen htwo
      have HTU2 := Lib.hid hTU2
      have HRANK := Lib.hid hrank
      have HMARK := Lib.hid hmark
      have HNM := Lib.hid hnm
      have HIL := Lib.hid hIl
      have HMT := Lib.hid hmte
      have HN := Lib.hid hn
      clear hS hT hsm hnm hI hTU2 hrank hmark hmt hmte hIl hst hsd hon
      go_wp2_with fail
      refine (HNX.out _ _ 12 wr ms4 mp4).mono ?_
      rintro e w5 ⟨pv, rfl, hpv⟩
      dsimp only [Option.getD_some, Option.isSome_some] at hpv ⊢
      obtain ⟨pA, pc, rfl, hpc, hpm⟩ := hpv.shape
      rw [← hn] at hpv hpc ⊢
      unfold plV
      dsimp only
      clear hn g0 g1 g2
      have b6 := below_trans hpv.below_ (below_al w5 (.cells #[.int .i64 fr, .int .i64 to_, .int .i64 lv, .slice pA n pc] 33))
      have B6 := below_trans B4 b6
      have L6 := hL4.below b6
      have P6 := Blk.new w5 #[.int .i64 fr, .int .i64 to_, .int .i64 lv, .slice pA n pc] 33
      have ms6 := (ms4.below b6).base b6
      have mp6 := mp4.below b6
      have hX05 : X0 < w5.heap.size := Nat.lt_of_lt_of_le hL4.lt hpv.below_.size
      have hPB : w.heap.size ≤ w5.heap.size := (below_trans B4 hpv.below_).size
      have pv6 := (hpv.slice.below (below_al w5 (.cells #[.int .i64 fr, .int .i64 to_, .int .i64 lv, .slice pA n pc] 33))).base b6
      clear hpv B4 hL4 ms4 mp4 b6
      go_upto_region 9 with fail
      obtain ⟨PB, hPBe⟩ : ∃ PB, PB = w5.heap.size := ⟨_, rfl⟩
      obtain ⟨w6, hw6⟩ : ∃ w6, w6 = w5.alloc (.cells #[.int .i64 fr, .int .i64 to_, .int .i64 lv, .slice pA n pc] 33) := ⟨_, rfl⟩
      rw [← hw6] at B6 L6 P6 ms6 mp6 pv6 ⊢
      rw [← hPBe] at P6 hX05 hPB ⊢
      clear hw6 hPBe
      obtain ⟨g0, g1, g2⟩ := L6.c3
      go_wp2_with fail
      refine (HRK.out _ _ 12 w6 ms6 mp6).mono ?_
      rintro e w7 ⟨rfl, hb7⟩
      have B7 := below_trans B6 hb7
      have L7 := L6.below hb7
      have P7 := P6.below hb7
      have ms7 := (ms6.below hb7).base hb7
      have mp7 := mp6.below hb7
      have pv7 := (pv6.below hb7).base hb7
      obtain ⟨RK, hRK⟩ : ∃ RK, RK = rank L mf := ⟨_, rfl⟩
      rw [← hRK] at HRANK
      clear B6 L6 P6 ms6 mp6 pv6 hb7 g0 g1 g2 HRK HNX
      go_wp2_with fail
      rw [← hRK]
      clear hRK
      have HMK := Lib.hid (make_ok 2 (t : Int) w7 (by unfold okT; omega) (by unfold okT; omega))
      refine HMK.out.mono ?_
      rintro e w8 ⟨rfl, hb8⟩
      rw [show (2 : Int).toNat = 2 from rfl, Int.toNat_natCast]
      have B8 := below_trans B7 hb8
      have L8 := L7.below hb8
      have P8 := P7.below hb8
      have ms8 := (ms7.below hb8).base hb8
      have mp8 := mp7.below hb8
      have pv8 := (pv7.below hb8).base hb8
      clear B7 L7 P7 ms7 mp7 pv7 hb8 HMK
      go_upto_region 13 with fail
      have HP8 := Lib.hid P8
      have HL8 := Lib.hid L8
      have HMS8 := Lib.hid ms8
      have HMP8 := Lib.hid mp8
      have HPV8 := Lib.hid pv8
      have HB8 := Lib.hid B8
      clear P8 L8 ms8 mp8 pv8 B8
      have hstT : ∀ k v w w', Below w.heap.size w w' → Dv.factOf ([(2, ((fun v => v = (.int .i64 fr)), noFact, 2)), (4, ((fun v => v = (.int .i64 to_)), noFact, 4)), (6, ((fun v => v = (.int .i64 lv)), noFact, 6)), (9, ((fun v => ∃ g, v = .slice (some ⟨g, 0, none⟩) 2 2), (fun v w' => FBuf w8 w' 59 3 v 2 (fcs [⟨chunksN, 10, 0⟩, ⟨indexN, 10, 0⟩])), 14)), (10, ((fun v => v = (.agg #[.int .i64 fr, .int .i64 to_, .int .i64 lv, .slice pA n pc])), noFact, 10)), (11, ((fun v => ∃ A c, v = .slice A n c), (fun v w' => FBuf w8 w' 9 1 v n (scs I)), 14)), (13, ((fun v => ∃ B, v = .pointer (some ⟨B, 0, none⟩)), (fun v w' => ∀ B, v = .pointer (some ⟨B, 0, none⟩) → w8.heap.size ≤ B ∧ Blk w' B 55 #[.string ByteArray.empty, .int .i64 0, .int .i64 0, .int .i64 0, .int .i64 0, .int .i64 0, .slice none 0 0, .slice none 0 0]), 14)), (14, ((fun _ => True), noFact, 14))] : List (Nat × Dv.Kp)) k v w → Dv.factOf ([(2, ((fun v => v = (.int .i64 fr)), noFact, 2)), (4, ((fun v => v = (.int .i64 to_)), noFact, 4)), (6, ((fun v => v = (.int .i64 lv)), noFact, 6)), (9, ((fun v => ∃ g, v = .slice (some ⟨g, 0, none⟩) 2 2), (fun v w' => FBuf w8 w' 59 3 v 2 (fcs [⟨chunksN, 10, 0⟩, ⟨indexN, 10, 0⟩])), 14)), (10, ((fun v => v = (.agg #[.int .i64 fr, .int .i64 to_, .int .i64 lv, .slice pA n pc])), noFact, 10)), (11, ((fun v => ∃ A c, v = .slice A n c), (fun v w' => FBuf w8 w' 9 1 v n (scs I)), 14)), (13, ((fun v => ∃ B, v = .pointer (some ⟨B, 0, none⟩)), (fun v w' => ∀ B, v = .pointer (some ⟨B, 0, none⟩) → w8.heap.size ≤ B ∧ Blk w' B 55 #[.string ByteArray.empty, .int .i64 0, .int .i64 0, .int .i64 0, .int .i64 0, .int .i64 0, .slice none 0 0, .slice none 0 0]), 14)), (14, ((fun _ => True), noFact, 14))] : List (Nat × Dv.Kp)) k v w' := Dv.fact_st (by
        simp only [List.forall_mem_cons, List.not_mem_nil, false_imp_iff, implies_true, and_true]
        refine ⟨?_, ?_, ?_, ?_, ?_, ?_, ?_, ?_⟩
        · exact fun _ _ _ _ _ => trivial
        · exact fun _ _ _ _ _ => trivial
        · exact fun _ _ _ _ _ => trivial
        · exact fun _ _ _ hb h => h.below hb
        · exact fun _ _ _ _ _ => trivial
        · exact fun _ _ _ hb h => h.below hb
        · exact fun _ _ _ hb h B he => ⟨(h B he).1, (h B he).2.below hb⟩
        · exact fun _ _ _ _ _ => trivial)
      have htrT : ∀ x ∈ ([(2, ((fun v => v = (.int .i64 fr)), noFact, 2)), (4, ((fun v => v = (.int .i64 to_)), noFact, 4)), (6, ((fun v => v = (.int .i64 lv)), noFact, 6)), (9, ((fun v => ∃ g, v = .slice (some ⟨g, 0, none⟩) 2 2), (fun v w' => FBuf w8 w' 59 3 v 2 (fcs [⟨chunksN, 10, 0⟩, ⟨indexN, 10, 0⟩])), 14)), (10, ((fun v => v = (.agg #[.int .i64 fr, .int .i64 to_, .int .i64 lv, .slice pA n pc])), noFact, 10)), (11, ((fun v => ∃ A c, v = .slice A n c), (fun v w' => FBuf w8 w' 9 1 v n (scs I)), 14)), (13, ((fun v => ∃ B, v = .pointer (some ⟨B, 0, none⟩)), (fun v w' => ∀ B, v = .pointer (some ⟨B, 0, none⟩) → w8.heap.size ≤ B ∧ Blk w' B 55 #[.string ByteArray.empty, .int .i64 0, .int .i64 0, .int .i64 0, .int .i64 0, .int .i64 0, .slice none 0 0, .slice none 0 0]), 14)), (14, ((fun _ => True), noFact, 14))] : List (Nat × Dv.Kp)), (([(2, ((fun v => v = (.int .i64 fr)), noFact, 2)), (4, ((fun v => v = (.int .i64 to_)), noFact, 4)), (6, ((fun v => v = (.int .i64 lv)), noFact, 6)), (9, ((fun v => ∃ g, v = .slice (some ⟨g, 0, none⟩) 2 2), (fun v w' => FBuf w8 w' 59 3 v 2 (fcs [⟨chunksN, 10, 0⟩, ⟨indexN, 10, 0⟩])), 14)), (10, ((fun v => v = (.agg #[.int .i64 fr, .int .i64 to_, .int .i64 lv, .slice pA n pc])), noFact, 10)), (11, ((fun v => ∃ A c, v = .slice A n c), (fun v w' => FBuf w8 w' 9 1 v n (scs I)), 14)), (13, ((fun v => ∃ B, v = .pointer (some ⟨B, 0, none⟩)), (fun v w' => ∀ B, v = .pointer (some ⟨B, 0, none⟩) → w8.heap.size ≤ B ∧ Blk w' B 55 #[.string ByteArray.empty, .int .i64 0, .int .i64 0, .int .i64 0, .int .i64 0, .int .i64 0, .slice none 0 0, .slice none 0 0]), 14)), (14, ((fun _ => True), noFact, 14))] : List (Nat × Dv.Kp)).lookup x.2.2.2).isSome = true := by
        simp only [List.forall_mem_cons, List.not_mem_nil, false_imp_iff, implies_true, and_true]
        exact ⟨by kernel_rfl, by kernel_rfl, by kernel_rfl, by kernel_rfl, by kernel_rfl, by kernel_rfl, by kernel_rfl, by kernel_rfl⟩
      refine Dv.wp_region_two (L := ([(2, ((fun v => v = (.int .i64 fr)), noFact, 2)), (4, ((fun v => v = (.int .i64 to_)), noFact, 4)), (6, ((fun v => v = (.int .i64 lv)), noFact, 6)), (9, ((fun v => ∃ g, v = .slice (some ⟨g, 0, none⟩) 2 2), (fun v w' => FBuf w8 w' 59 3 v 2 (fcs [⟨chunksN, 10, 0⟩, ⟨indexN, 10, 0⟩])), 14)), (10, ((fun v => v = (.agg #[.int .i64 fr, .int .i64 to_, .int .i64 lv, .slice pA n pc])), noFact, 10)), (11, ((fun v => ∃ A c, v = .slice A n c), (fun v w' => FBuf w8 w' 9 1 v n (scs I)), 14)), (13, ((fun v => ∃ B, v = .pointer (some ⟨B, 0, none⟩)), (fun v w' => ∀ B, v = .pointer (some ⟨B, 0, none⟩) → w8.heap.size ≤ B ∧ Blk w' B 55 #[.string ByteArray.empty, .int .i64 0, .int .i64 0, .int .i64 0, .int .i64 0, .int .i64 0, .slice none 0 0, .slice none 0 0]), 14)), (14, ((fun _ => True), noFact, 14))] : List (Nat × Dv.Kp))) (m := 14) (Fin := (FinM w8 (mk 2 t) fr to_ lv n I)) (by kernel_rfl) 82 (by kernel_rfl) rfl (by kernel_rfl) ?_ ?_ ?_
      · simp only [List.forall_mem_cons, List.not_mem_nil, false_imp_iff, implies_true, and_true]
        exact ⟨⟨_, rfl⟩, ⟨_, rfl⟩, ⟨_, rfl⟩, ⟨_, 0, rfl⟩, ⟨_, rfl⟩, ⟨_, none, 0, rfl⟩, ⟨_, 0, rfl⟩, ⟨undef, trivial⟩⟩
      · exact (fun vs vs' w' h hf => by unfold FinM at hf ⊢; rw [← h 9 (by kernel_rfl) (by decide), ← h 11 (by kernel_rfl) (by decide), ← h 13 (by kernel_rfl) (by decide)]; exact hf)
      repeat (first
        | (refine Dv.Chain.step (v := ?_) (a' := ?_) rfl rfl rfl ?_ ?_ ?_
           rotate_left 2
           focus (intro w; go_simp; try with_reducible rfl)
           focus (simp only [Act.put, List.setIfInBounds_toArray, List.set_cons_succ, List.set_cons_zero]; try rfl))
        | (refine Dv.Chain.skip' (a' := ?_) rfl rfl rfl ?_ ?_
           rotate_left 1
           focus (simp only [Act.put, List.setIfInBounds_toArray, List.set_cons_succ, List.set_cons_zero]; try rfl)))
      refine Dv.XT.call (a' := ?_) _ _ rfl (by decide) hstT rfl rfl (fun wx hw hF => ?_) htrT ?_ ?_
      rotate_left 1
      focus
        obtain ⟨g0, g1, g2, g3⟩ := Blk.c4 (HP8.out.below hw); go_simp; first | exact ⟨rfl, Below.refl _ _⟩ | exact Below.refl _ _
      focus (simp only [Act.put, List.setIfInBounds_toArray, List.set_cons_succ, List.set_cons_zero]; try rfl)
      repeat (first
        | (refine Dv.Chain.step (v := ?_) (a' := ?_) rfl rfl rfl ?_ ?_ ?_
           rotate_left 2
           focus (intro w; go_simp; try with_reducible rfl)
           focus (simp only [Act.put, List.setIfInBounds_toArray, List.set_cons_succ, List.set_cons_zero]; try rfl))
        | (refine Dv.Chain.skip' (a' := ?_) rfl rfl rfl ?_ ?_
           rotate_left 1
           focus (simp only [Act.put, List.setIfInBounds_toArray, List.set_cons_succ, List.set_cons_zero]; try rfl)))
      refine Dv.XT.call (a' := ?_) _ _ rfl (by decide) hstT rfl rfl (fun wx hw hF => ?_) htrT ?_ ?_
      rotate_left 1
      focus
        obtain ⟨g0, g1, g2, g3⟩ := Blk.c4 (HP8.out.below hw); go_simp; first | exact ⟨rfl, Below.refl _ _⟩ | exact Below.refl _ _
      focus (simp only [Act.put, List.setIfInBounds_toArray, List.set_cons_succ, List.set_cons_zero]; try rfl)
      repeat (first
        | (refine Dv.Chain.step (v := ?_) (a' := ?_) rfl rfl rfl ?_ ?_ ?_
           rotate_left 2
           focus (intro w; go_simp; try with_reducible rfl)
           focus (simp only [Act.put, List.setIfInBounds_toArray, List.set_cons_succ, List.set_cons_zero]; try rfl))
        | (refine Dv.Chain.skip' (a' := ?_) rfl rfl rfl ?_ ?_
           rotate_left 1
           focus (simp only [Act.put, List.setIfInBounds_toArray, List.set_cons_succ, List.set_cons_zero]; try rfl)))
      refine Dv.XT.call (a' := ?_) _ _ rfl (by decide) hstT rfl rfl (fun wx hw hF => ?_) htrT ?_ ?_
      rotate_left 1
      focus
        obtain ⟨g0, g1, g2, g3⟩ := Blk.c4 (HP8.out.below hw); go_simp; first | exact ⟨rfl, Below.refl _ _⟩ | exact Below.refl _ _
      focus (simp only [Act.put, List.setIfInBounds_toArray, List.set_cons_succ, List.set_cons_zero]; try rfl)
      repeat (first
        | (refine Dv.Chain.step (v := ?_) (a' := ?_) rfl rfl rfl ?_ ?_ ?_
           rotate_left 2
           focus (intro w; go_simp; try with_reducible rfl)
           focus (simp only [Act.put, List.setIfInBounds_toArray, List.set_cons_succ, List.set_cons_zero]; try rfl))
        | (refine Dv.Chain.skip' (a' := ?_) rfl rfl rfl ?_ ?_
           rotate_left 1
           focus (simp only [Act.put, List.setIfInBounds_toArray, List.set_cons_succ, List.set_cons_zero]; try rfl)))
      refine Dv.XT.make _ _ _ rfl (by decide) hstT rfl rfl (fun wx hw hF => ?_) htrT (fun v9 hv9 a' ha => ?_)
      focus
        go_simp
        exact ⟨ba1 _ _, Buf.lit wx 59 3 2 (fcs [⟨chunksN, 10, 0⟩, ⟨indexN, 10, 0⟩]) rfl (by decide), fun k hk => by simp [Value.ownBlock] at hk; subst hk; exact hw.size⟩
      obtain ⟨g9, rfl⟩ := hv9
      simp only [Act.put, List.setIfInBounds_toArray, List.set_cons_succ, List.set_cons_zero] at ha
      subst ha
      repeat (first
        | (refine Dv.Chain.step (v := ?_) (a' := ?_) rfl rfl rfl ?_ ?_ ?_
           rotate_left 2
           focus (intro w; go_simp; try with_reducible rfl)
           focus (simp only [Act.put, List.setIfInBounds_toArray, List.set_cons_succ, List.set_cons_zero]; try rfl))
        | (refine Dv.Chain.skip' (a' := ?_) rfl rfl rfl ?_ ?_
           rotate_left 1
           focus (simp only [Act.put, List.setIfInBounds_toArray, List.set_cons_succ, List.set_cons_zero]; try rfl)))
      refine Dv.XT.call (a' := ?_) _ _ rfl (by decide) hstT rfl rfl (fun wx hw hF => ?_) htrT ?_ ?_
      rotate_left 1
      focus
        obtain ⟨g0, g1, g2, g3⟩ := Blk.c4 (HP8.out.below hw); go_simp; first | exact ⟨rfl, Below.refl _ _⟩ | exact Below.refl _ _
      focus (simp only [Act.put, List.setIfInBounds_toArray, List.set_cons_succ, List.set_cons_zero]; try rfl)
      repeat (first
        | (refine Dv.Chain.step (v := ?_) (a' := ?_) rfl rfl rfl ?_ ?_ ?_
           rotate_left 2
           focus (intro w; go_simp; try with_reducible rfl)
           focus (simp only [Act.put, List.setIfInBounds_toArray, List.set_cons_succ, List.set_cons_zero]; try rfl))
        | (refine Dv.Chain.skip' (a' := ?_) rfl rfl rfl ?_ ?_
           rotate_left 1
           focus (simp only [Act.put, List.setIfInBounds_toArray, List.set_cons_succ, List.set_cons_zero]; try rfl)))
      refine Dv.XT.make _ _ _ rfl (by decide) hstT rfl rfl (fun wx hw hF => ?_) htrT (fun v11 hv11 a' ha => ?_)
      focus
        go_simp
        with_reducible refine (HNM.out _ _ ((HPV8.out.below hw).base hw)).mono ?_
        rintro e w' ⟨nv, rfl, hnb⟩
        rw [HIL.out] at hnb
        obtain ⟨A, c, rfl, _⟩ := hnb.buf.shape
        exact ⟨⟨A, c, rfl⟩, hnb.below, hnb.buf, fun k hk => Nat.le_trans hw.size (hnb.new k hk)⟩
      obtain ⟨A11, c11, rfl⟩ := hv11
      simp only [Act.put, List.setIfInBounds_toArray, List.set_cons_succ, List.set_cons_zero] at ha
      subst ha
      repeat (first
        | (refine Dv.Chain.step (v := ?_) (a' := ?_) rfl rfl rfl ?_ ?_ ?_
           rotate_left 2
           focus (intro w; go_simp; try with_reducible rfl)
           focus (simp only [Act.put, List.setIfInBounds_toArray, List.set_cons_succ, List.set_cons_zero]; try rfl))
        | (refine Dv.Chain.skip' (a' := ?_) rfl rfl rfl ?_ ?_
           rotate_left 1
           focus (simp only [Act.put, List.setIfInBounds_toArray, List.set_cons_succ, List.set_cons_zero]; try rfl)))
      refine Dv.XT.make _ _ _ rfl (by decide) hstT rfl rfl (fun wx hw hF => ?_) htrT (fun v13 hv13 a' ha => ?_)
      focus
        go_simp
        exact ⟨ba1 _ _, hw.size, Blk.new _ _ _⟩
      obtain ⟨B13, rfl⟩ := hv13
      simp only [Act.put, List.setIfInBounds_toArray, List.set_cons_succ, List.set_cons_zero] at ha
      subst ha
      repeat (first
        | (refine Dv.Chain.step (v := ?_) (a' := ?_) rfl rfl rfl ?_ ?_ ?_
           rotate_left 2
           focus (intro w; go_simp; try with_reducible rfl)
           focus (simp only [Act.put, List.setIfInBounds_toArray, List.set_cons_succ, List.set_cons_zero]; try rfl))
        | (refine Dv.Chain.skip' (a' := ?_) rfl rfl rfl ?_ ?_
           rotate_left 1
           focus (simp only [Act.put, List.setIfInBounds_toArray, List.set_cons_succ, List.set_cons_zero]; try rfl)))
      refine Dv.XT.last _ _ _ rfl rfl (by kernel_rfl) rfl rfl (fun vs wx hw hF => ?_) (fun v14 hv14 a' ha => ?_)
      focus
        have f9 : (fun v w' => FBuf w8 w' 59 3 v 2 (fcs [⟨chunksN, 10, 0⟩, ⟨indexN, 10, 0⟩]) : Value → World → Prop) _ wx := (hF 9 _ (by kernel_rfl) rfl).1 (by kernel_rfl)
        have q9 := (hF 9 _ (by kernel_rfl) rfl).2
        have f11 : (fun v w' => FBuf w8 w' 9 1 v n (scs I) : Value → World → Prop) _ wx := (hF 11 _ (by kernel_rfl) rfl).1 (by kernel_rfl)
        have q11 := (hF 11 _ (by kernel_rfl) rfl).2
        have f13 : (fun v w' => ∀ B, v = .pointer (some ⟨B, 0, none⟩) → w8.heap.size ≤ B ∧ Blk w' B 55 #[.string ByteArray.empty, .int .i64 0, .int .i64 0, .int .i64 0, .int .i64 0, .int .i64 0, .slice none 0 0, .slice none 0 0] : Value → World → Prop) _ wx := (hF 13 _ (by kernel_rfl) rfl).1 (by kernel_rfl)
        have q13 := (hF 13 _ (by kernel_rfl) rfl).2
        obtain ⟨f13a, f13b⟩ := f13 _ rfl
        have hfin := FinM.of q9 q11 q13 f13a hw f9 f11 f13b (id := mk 2 t) (fr := fr) (to_ := to_) (lv := lv)
        have HFIN := Lib.hid hfin
        obtain ⟨k0, k1, k2, k3, k4, k5, k6, k7⟩ := f13b.c8
        have u0 := f13b.free 0
        have u1 := f13b.free 1
        have u2 := f13b.free 2
        have u3 := f13b.free 3
        have u4 := f13b.free 4
        have u5 := f13b.free 5
        have u6 := f13b.free 6
        have u7 := f13b.free 7
        clear f9 f11 f13 f13b q9 q11 q13 hfin
        go_simp
        exact ⟨undef, HFIN.out undef⟩
      obtain _ := hv14
      simp only [Act.put, List.setIfInBounds_toArray, List.set_cons_succ, List.set_cons_zero] at ha
      subst ha
      repeat (first
        | (refine Dv.Chain.step (v := ?_) (a' := ?_) rfl rfl rfl ?_ ?_ ?_
           rotate_left 2
           focus (intro w; go_simp; try with_reducible rfl)
           focus (simp only [Act.put, List.setIfInBounds_toArray, List.set_cons_succ, List.set_cons_zero]; try rfl))
        | (refine Dv.Chain.skip' (a' := ?_) rfl rfl rfl ?_ ?_
           rotate_left 1
           focus (simp only [Act.put, List.setIfInBounds_toArray, List.set_cons_succ, List.set_cons_zero]; try rfl)))
      refine Dv.XT.end_ (by decide) (fun vs w9 hv hfin => ?_)
      obtain ⟨B, g, NA, nc, p1, p2, p3, hB, hb9, M9, F9, I9⟩ := hfin
      have r13 := hv 13 _ rfl
      have r11 := hv 11 _ rfl
      have r9 := hv 9 _ rfl
      rw [r13] at p1
      injection p1 with p1
      injection p1 with p1
      injection p1 with p1 _ _
      subst p1
      rw [r9, r11] at M9
      rw [r9] at F9
      rw [r11] at I9
      clear p2 p3 r13 r11 r9 hv
      have L9 := HL8.out.below hb9
      have P9 := HP8.out.below hb9
      have ms9 := (HMS8.out.below hb9).base hb9
      have mp9 := HMP8.out.below hb9
      have B9 := below_trans HB8.out hb9
      clear HL8 HP8 HMS8 HMP8 HPV8 HB8 hb9 hB vs HNM
      obtain ⟨xs, hx, hsl, hma⟩ := ms9
      have hxl := map_len hx
      rw [hxl] at hsl
      have hsrc := fun (w' : World) hb => SlAt.src (P := Try.prog) (hsl.below (w' := w') hb) (by decide) (t := 23) Try.underlying23 (mcs_one xs)
      have hlst' := HTU2.out.lst
      obtain ⟨y, hy⟩ : ∃ y : Mv, y = ⟨mt, some ⟨g9, 0, none⟩, 2, A11, c11⟩ := ⟨_, rfl⟩
      have hym : y.m = mt := by rw [hy]
      have hencY : encM y = [.string (bs (mk 2 t)), .int .i64 fr, .int .i64 to_, .int .i64 lv, .int .i64 1, .int .i64 1, .slice (some ⟨g9, 0, none⟩) 2 2, .slice A11 n c11] := by
        rw [hy, HMT.out, ← HIL.out]; rfl
      have hyat : MAt w9 y := by
        rw [hy, HMT.out]
        refine ⟨F9, ?_⟩
        show SlAt w9 1 (.slice A11 I.length c11) I.length (scs I)
        rw [HIL.out]
        exact I9
      obtain ⟨L', hL'⟩ : ∃ L', L' = L ++ [mt] := ⟨_, rfl⟩
      have hmap : (xs ++ [y]).map (·.m) = L' := by rw [List.map_append, hx, hL']; show L ++ [y.m] = _; rw [hym]
      rw [← hL'] at HTU2 HRANK HMARK hlst'
      obtain ⟨K, hK⟩ : ∃ K, K = L.length + 1 := ⟨_, rfl⟩
      have hKl : (xs ++ [y]).length = K := by rw [List.length_append, hxl, hK]; rfl
      have hlen9 : L.length ≤ 1000 := by have := hlst'.len; rw [hL', List.length_append] at this; omega
      have hmsq : ∀ (A : Option Addr) (c : Nat) (w' : World), FBuf w9 w' 55 8 (.slice A K c) K (mcs xs ++ encM y) → MsAt w9 w' (.slice A K c) L' := fun A c w' hf => ⟨xs ++ [y], hmap, by
        rw [hKl, mcs_snoc]; exact hf.slice, fun x hx => by
        rcases List.mem_append.1 hx with hx | hx
        · exact hma x hx
        · obtain rfl := List.mem_singleton.1 hx
          exact hyat⟩
      have hnw := fun (v : Value) (w' : World) (h1 : MsAt w9 w' v L') (h2 : Mp w' mb 12 mf) => new_any 5 v L' mb 12 mf w9 w' h1 h2 hlst'
      have hLK : L'.length = K := by rw [hL', hK, List.length_append]; rfl
      have HSRC := Lib.hid hsrc
      have HMSQ := Lib.hid hmsq
      have HNW := Lib.hid hnw
      have HEY := Lib.hid hencY
      have HK := Lib.hid hK
      have HLK := Lib.hid hLK
      have HL9 := Lib.hid L9
      have HP9 := Lib.hid P9
      have HM9 := Lib.hid M9
      have HMP := Lib.hid mp9
      have HB9 := Lib.hid B9
      clear hx hsl hma hxl hsrc hlst' hy hym hencY hyat hmap hKl hmsq hnw hL' hK hLK L9 P9 M9 mp9 B9 F9 I9 HMT HLST HTU
      go_upto_region 14 with fail
      have hstT : ∀ k v w w', Below w.heap.size w w' → Dv.factOf ([(0, ((fun v => ∃ g, v = .slice (some ⟨g, 0, none⟩) 0 0), (fun v w' => FBuf w9 w' 55 8 v 0 []), 3)), (2, ((fun v => v = (.slice mA L.length mc)), noFact, 2)), (3, ((isSl L.length), (fun v w' => FBuf w9 w' 55 8 v L.length (mcs xs)), 6)), (4, ((fun v => v = (.agg #[.string (bs (mk 2 t)), .int .i64 fr, .int .i64 to_, .int .i64 lv, .int .i64 1, .int .i64 1, .slice (some ⟨g9, 0, none⟩) 2 2, .slice A11 n c11])), noFact, 4)), (5, ((fun v => ∃ g, v = .slice (some ⟨g, 0, none⟩) 1 1), (fun v w' => FBuf w9 w' 55 8 v 1 (encM y)), 6)), (6, ((isSl K), (fun v w' => FBuf w9 w' 55 8 v K (mcs xs ++ encM y)), 9)), (8, ((fun v => v = (.map (some mb))), noFact, 8)), (9, ((fun v => ∃ A c b, v = .agg #[.int .i64 5, .slice A K c, .map (some b)]), (fun v w' => LiF K L' mf v w'), 10)), (10, ((fun _ => True), noFact, 10))] : List (Nat × Dv.Kp)) k v w → Dv.factOf ([(0, ((fun v => ∃ g, v = .slice (some ⟨g, 0, none⟩) 0 0), (fun v w' => FBuf w9 w' 55 8 v 0 []), 3)), (2, ((fun v => v = (.slice mA L.length mc)), noFact, 2)), (3, ((isSl L.length), (fun v w' => FBuf w9 w' 55 8 v L.length (mcs xs)), 6)), (4, ((fun v => v = (.agg #[.string (bs (mk 2 t)), .int .i64 fr, .int .i64 to_, .int .i64 lv, .int .i64 1, .int .i64 1, .slice (some ⟨g9, 0, none⟩) 2 2, .slice A11 n c11])), noFact, 4)), (5, ((fun v => ∃ g, v = .slice (some ⟨g, 0, none⟩) 1 1), (fun v w' => FBuf w9 w' 55 8 v 1 (encM y)), 6)), (6, ((isSl K), (fun v w' => FBuf w9 w' 55 8 v K (mcs xs ++ encM y)), 9)), (8, ((fun v => v = (.map (some mb))), noFact, 8)), (9, ((fun v => ∃ A c b, v = .agg #[.int .i64 5, .slice A K c, .map (some b)]), (fun v w' => LiF K L' mf v w'), 10)), (10, ((fun _ => True), noFact, 10))] : List (Nat × Dv.Kp)) k v w' := Dv.fact_st (by
        simp only [List.forall_mem_cons, List.not_mem_nil, false_imp_iff, implies_true, and_true]
        refine ⟨?_, ?_, ?_, ?_, ?_, ?_, ?_, ?_, ?_⟩
        · exact fun _ _ _ hb h => h.below hb
        · exact fun _ _ _ _ _ => trivial
        · exact fun _ _ _ hb h => h.below hb
        · exact fun _ _ _ _ _ => trivial
        · exact fun _ _ _ hb h => h.below hb
        · exact fun _ _ _ hb h => h.below hb
        · exact fun _ _ _ _ _ => trivial
        · exact fun _ _ _ hb h => h.below hb
        · exact fun _ _ _ _ _ => trivial)
      have htrT : ∀ x ∈ ([(0, ((fun v => ∃ g, v = .slice (some ⟨g, 0, none⟩) 0 0), (fun v w' => FBuf w9 w' 55 8 v 0 []), 3)), (2, ((fun v => v = (.slice mA L.length mc)), noFact, 2)), (3, ((isSl L.length), (fun v w' => FBuf w9 w' 55 8 v L.length (mcs xs)), 6)), (4, ((fun v => v = (.agg #[.string (bs (mk 2 t)), .int .i64 fr, .int .i64 to_, .int .i64 lv, .int .i64 1, .int .i64 1, .slice (some ⟨g9, 0, none⟩) 2 2, .slice A11 n c11])), noFact, 4)), (5, ((fun v => ∃ g, v = .slice (some ⟨g, 0, none⟩) 1 1), (fun v w' => FBuf w9 w' 55 8 v 1 (encM y)), 6)), (6, ((isSl K), (fun v w' => FBuf w9 w' 55 8 v K (mcs xs ++ encM y)), 9)), (8, ((fun v => v = (.map (some mb))), noFact, 8)), (9, ((fun v => ∃ A c b, v = .agg #[.int .i64 5, .slice A K c, .map (some b)]), (fun v w' => LiF K L' mf v w'), 10)), (10, ((fun _ => True), noFact, 10))] : List (Nat × Dv.Kp)), (([(0, ((fun v => ∃ g, v = .slice (some ⟨g, 0, none⟩) 0 0), (fun v w' => FBuf w9 w' 55 8 v 0 []), 3)), (2, ((fun v => v = (.slice mA L.length mc)), noFact, 2)), (3, ((isSl L.length), (fun v w' => FBuf w9 w' 55 8 v L.length (mcs xs)), 6)), (4, ((fun v => v = (.agg #[.string (bs (mk 2 t)), .int .i64 fr, .int .i64 to_, .int .i64 lv, .int .i64 1, .int .i64 1, .slice (some ⟨g9, 0, none⟩) 2 2, .slice A11 n c11])), noFact, 4)), (5, ((fun v => ∃ g, v = .slice (some ⟨g, 0, none⟩) 1 1), (fun v w' => FBuf w9 w' 55 8 v 1 (encM y)), 6)), (6, ((isSl K), (fun v w' => FBuf w9 w' 55 8 v K (mcs xs ++ encM y)), 9)), (8, ((fun v => v = (.map (some mb))), noFact, 8)), (9, ((fun v => ∃ A c b, v = .agg #[.int .i64 5, .slice A K c, .map (some b)]), (fun v w' => LiF K L' mf v w'), 10)), (10, ((fun _ => True), noFact, 10))] : List (Nat × Dv.Kp)).lookup x.2.2.2).isSome = true := by
        simp only [List.forall_mem_cons, List.not_mem_nil, false_imp_iff, implies_true, and_true]
        exact ⟨by kernel_rfl, by kernel_rfl, by kernel_rfl, by kernel_rfl, by kernel_rfl, by kernel_rfl, by kernel_rfl, by kernel_rfl, by kernel_rfl⟩
      refine Dv.wp_region_two (L := ([(0, ((fun v => ∃ g, v = .slice (some ⟨g, 0, none⟩) 0 0), (fun v w' => FBuf w9 w' 55 8 v 0 []), 3)), (2, ((fun v => v = (.slice mA L.length mc)), noFact, 2)), (3, ((isSl L.length), (fun v w' => FBuf w9 w' 55 8 v L.length (mcs xs)), 6)), (4, ((fun v => v = (.agg #[.string (bs (mk 2 t)), .int .i64 fr, .int .i64 to_, .int .i64 lv, .int .i64 1, .int .i64 1, .slice (some ⟨g9, 0, none⟩) 2 2, .slice A11 n c11])), noFact, 4)), (5, ((fun v => ∃ g, v = .slice (some ⟨g, 0, none⟩) 1 1), (fun v w' => FBuf w9 w' 55 8 v 1 (encM y)), 6)), (6, ((isSl K), (fun v w' => FBuf w9 w' 55 8 v K (mcs xs ++ encM y)), 9)), (8, ((fun v => v = (.map (some mb))), noFact, 8)), (9, ((fun v => ∃ A c b, v = .agg #[.int .i64 5, .slice A K c, .map (some b)]), (fun v w' => LiF K L' mf v w'), 10)), (10, ((fun _ => True), noFact, 10))] : List (Nat × Dv.Kp))) (m := 10) (Fin := (FinL w X0 PB K #[.int .i64 fr, .int .i64 to_, .int .i64 lv, .slice pA n pc] L' mf)) (by kernel_rfl) 82 (by kernel_rfl) rfl (by kernel_rfl) ?_ ?_ ?_
      · simp only [List.forall_mem_cons, List.not_mem_nil, false_imp_iff, implies_true, and_true]
        exact ⟨⟨_, 0, rfl⟩, ⟨_, rfl⟩, isSl_some _, ⟨_, rfl⟩, ⟨_, 0, rfl⟩, isSl_some _, ⟨_, rfl⟩, ⟨_, none, 0, 0, rfl⟩, ⟨undef, trivial⟩⟩
      · exact (fun _ _ _ _ h => h)
      repeat (first
        | (refine Dv.Chain.step (v := ?_) (a' := ?_) rfl rfl rfl ?_ ?_ ?_
           rotate_left 2
           focus (intro w; go_simp; try with_reducible rfl)
           focus (simp only [Act.put, List.setIfInBounds_toArray, List.set_cons_succ, List.set_cons_zero]; try rfl))
        | (refine Dv.Chain.skip' (a' := ?_) rfl rfl rfl ?_ ?_
           rotate_left 1
           focus (simp only [Act.put, List.setIfInBounds_toArray, List.set_cons_succ, List.set_cons_zero]; try rfl)))
      refine Dv.XT.make _ _ _ rfl (by decide) hstT rfl rfl (fun wx hw hF => ?_) htrT (fun v0 hv0 a' ha => ?_)
      focus
        go_simp
        exact ⟨ba1 _ _, Buf.lit wx 55 8 0 [] (by simp) (Nat.zero_le _), fun k hk => by simp [Value.ownBlock] at hk; subst hk; exact hw.size⟩
      obtain ⟨g0, rfl⟩ := hv0
      simp only [Act.put, List.setIfInBounds_toArray, List.set_cons_succ, List.set_cons_zero] at ha
      subst ha
      repeat (first
        | (refine Dv.Chain.step (v := ?_) (a' := ?_) rfl rfl rfl ?_ ?_ ?_
           rotate_left 2
           focus (intro w; go_simp; try with_reducible rfl)
           focus (simp only [Act.put, List.setIfInBounds_toArray, List.set_cons_succ, List.set_cons_zero]; try rfl))
        | (refine Dv.Chain.skip' (a' := ?_) rfl rfl rfl ?_ ?_
           rotate_left 1
           focus (simp only [Act.put, List.setIfInBounds_toArray, List.set_cons_succ, List.set_cons_zero]; try rfl)))
      refine Dv.XT.call (a' := ?_) _ _ rfl (by decide) hstT rfl rfl (fun wx hw hF => ?_) htrT ?_ ?_
      rotate_left 1
      focus
        obtain ⟨g0, g1, g2⟩ := Blk.c3 (HL9.out.below hw); go_simp; first | exact ⟨rfl, Below.refl _ _⟩ | exact Below.refl _ _
      focus (simp only [Act.put, List.setIfInBounds_toArray, List.set_cons_succ, List.set_cons_zero]; try rfl)
      repeat (first
        | (refine Dv.Chain.step (v := ?_) (a' := ?_) rfl rfl rfl ?_ ?_ ?_
           rotate_left 2
           focus (intro w; go_simp; try with_reducible rfl)
           focus (simp only [Act.put, List.setIfInBounds_toArray, List.set_cons_succ, List.set_cons_zero]; try rfl))
        | (refine Dv.Chain.skip' (a' := ?_) rfl rfl rfl ?_ ?_
           rotate_left 1
           focus (simp only [Act.put, List.setIfInBounds_toArray, List.set_cons_succ, List.set_cons_zero]; try rfl)))
      refine Dv.XT.make _ _ _ rfl (by decide) hstT rfl rfl (fun wx hw hF => ?_) htrT (fun v3 hv3 a' ha => ?_)
      focus
        have f0 : (fun v w' => FBuf w9 w' 55 8 v 0 [] : Value → World → Prop) _ wx := hF 0 _ (by kernel_rfl) rfl (by kernel_rfl)
        refine oper_append_buf (.tmp 59) (.tmp 61) 23 rfl meta_ty rfl f0.buf rfl (HSRC.out _ hw) (by simp only [maxLen]; omega) (by omega) ?_
        intro v' w' hb ha hg
        rw [Nat.zero_add, List.nil_append] at hb
        have hbl := Ap.below_full ha
        exact ⟨v', rfl, hb.shape, hbl, f0.grown hw.size hb hg⟩
      obtain ⟨A3, c3, rfl, hc3⟩ := hv3
      simp only [Act.put, List.setIfInBounds_toArray, List.set_cons_succ, List.set_cons_zero] at ha
      subst ha
      repeat (first
        | (refine Dv.Chain.step (v := ?_) (a' := ?_) rfl rfl rfl ?_ ?_ ?_
           rotate_left 2
           focus (intro w; go_simp; try with_reducible rfl)
           focus (simp only [Act.put, List.setIfInBounds_toArray, List.set_cons_succ, List.set_cons_zero]; try rfl))
        | (refine Dv.Chain.skip' (a' := ?_) rfl rfl rfl ?_ ?_
           rotate_left 1
           focus (simp only [Act.put, List.setIfInBounds_toArray, List.set_cons_succ, List.set_cons_zero]; try rfl)))
      refine Dv.XT.call (a' := ?_) _ _ rfl (by decide) hstT rfl rfl (fun wx hw hF => ?_) htrT ?_ ?_
      rotate_left 1
      focus
        obtain ⟨g0, g1, g2, g3, g4, g5, g6, g7⟩ := Blk.c8 (HM9.out.below hw); go_simp; first | exact ⟨rfl, Below.refl _ _⟩ | exact Below.refl _ _
      focus (simp only [Act.put, List.setIfInBounds_toArray, List.set_cons_succ, List.set_cons_zero]; try rfl)
      repeat (first
        | (refine Dv.Chain.step (v := ?_) (a' := ?_) rfl rfl rfl ?_ ?_ ?_
           rotate_left 2
           focus (intro w; go_simp; try with_reducible rfl)
           focus (simp only [Act.put, List.setIfInBounds_toArray, List.set_cons_succ, List.set_cons_zero]; try rfl))
        | (refine Dv.Chain.skip' (a' := ?_) rfl rfl rfl ?_ ?_
           rotate_left 1
           focus (simp only [Act.put, List.setIfInBounds_toArray, List.set_cons_succ, List.set_cons_zero]; try rfl)))
      refine Dv.XT.make _ _ _ rfl (by decide) hstT rfl rfl (fun wx hw hF => ?_) htrT (fun v5 hv5 a' ha => ?_)
      focus
        rw [HEY.out]
        go_simp
        exact ⟨ba1 _ _, Buf.lit wx 55 8 1 [.string (bs (mk 2 t)), .int .i64 fr, .int .i64 to_, .int .i64 lv, .int .i64 1, .int .i64 1, .slice (some ⟨g9, 0, none⟩) 2 2, .slice A11 n c11] rfl (by decide), fun k hk => by simp [Value.ownBlock] at hk; subst hk; exact hw.size⟩
      obtain ⟨g5, rfl⟩ := hv5
      simp only [Act.put, List.setIfInBounds_toArray, List.set_cons_succ, List.set_cons_zero] at ha
      subst ha
      repeat (first
        | (refine Dv.Chain.step (v := ?_) (a' := ?_) rfl rfl rfl ?_ ?_ ?_
           rotate_left 2
           focus (intro w; go_simp; try with_reducible rfl)
           focus (simp only [Act.put, List.setIfInBounds_toArray, List.set_cons_succ, List.set_cons_zero]; try rfl))
        | (refine Dv.Chain.skip' (a' := ?_) rfl rfl rfl ?_ ?_
           rotate_left 1
           focus (simp only [Act.put, List.setIfInBounds_toArray, List.set_cons_succ, List.set_cons_zero]; try rfl)))
      refine Dv.XT.write _ _ _ rfl (by decide) rfl rfl (by kernel_rfl) (fun wx hw hF => ?_) htrT (fun v6 hv6 a' ha => ?_)
      focus
        have f3 : (fun v w' => FBuf w9 w' 55 8 v L.length (mcs xs) : Value → World → Prop) _ wx := hF 3 _ (by kernel_rfl) rfl (by kernel_rfl)
        have f5 : (fun v w' => FBuf w9 w' 55 8 v 1 (encM y) : Value → World → Prop) _ wx := hF 5 _ (by kernel_rfl) rfl (by kernel_rfl)
        refine oper_append_buf (.tmp 62) (.tmp 64) 23 rfl meta_ty rfl f3.buf rfl (f5.buf.src Try.underlying23 (encM_one y)) (by simp only [maxLen]; omega) (by omega) ?_
        intro v' w' hb ha hg
        rw [← HK.out] at hb
        exact ⟨v', rfl, hb.shape, hw.trans (ha.below hw.size f3.new), f3.grown hw.size hb hg⟩
      obtain ⟨A6, c6, rfl, hc6⟩ := hv6
      simp only [Act.put, List.setIfInBounds_toArray, List.set_cons_succ, List.set_cons_zero] at ha
      subst ha
      repeat (first
        | (refine Dv.Chain.step (v := ?_) (a' := ?_) rfl rfl rfl ?_ ?_ ?_
           rotate_left 2
           focus (intro w; go_simp; try with_reducible rfl)
           focus (simp only [Act.put, List.setIfInBounds_toArray, List.set_cons_succ, List.set_cons_zero]; try rfl))
        | (refine Dv.Chain.skip' (a' := ?_) rfl rfl rfl ?_ ?_
           rotate_left 1
           focus (simp only [Act.put, List.setIfInBounds_toArray, List.set_cons_succ, List.set_cons_zero]; try rfl)))
      refine Dv.XT.call (a' := ?_) _ _ rfl (by decide) hstT rfl rfl (fun wx hw hF => ?_) htrT ?_ ?_
      rotate_left 1
      focus
        obtain ⟨g0, g1, g2⟩ := Blk.c3 (HL9.out.below hw); go_simp; first | exact ⟨rfl, Below.refl _ _⟩ | exact Below.refl _ _
      focus (simp only [Act.put, List.setIfInBounds_toArray, List.set_cons_succ, List.set_cons_zero]; try rfl)
      repeat (first
        | (refine Dv.Chain.step (v := ?_) (a' := ?_) rfl rfl rfl ?_ ?_ ?_
           rotate_left 2
           focus (intro w; go_simp; try with_reducible rfl)
           focus (simp only [Act.put, List.setIfInBounds_toArray, List.set_cons_succ, List.set_cons_zero]; try rfl))
        | (refine Dv.Chain.skip' (a' := ?_) rfl rfl rfl ?_ ?_
           rotate_left 1
           focus (simp only [Act.put, List.setIfInBounds_toArray, List.set_cons_succ, List.set_cons_zero]; try rfl)))
      refine Dv.XT.make _ _ _ rfl (by decide) hstT rfl rfl (fun wx hw hF => ?_) htrT (fun v9 hv9 a' ha => ?_)
      focus
        have f6 : (fun v w' => FBuf w9 w' 55 8 v K (mcs xs ++ encM y) : Value → World → Prop) _ wx := hF 6 _ (by kernel_rfl) rfl (by kernel_rfl)
        have hms6 := HMSQ.out _ _ _ f6
        go_simp
        with_reducible refine (HNW.out _ _ hms6 (HMP.out.below hw)).mono ?_
        rintro e w' ⟨v', rfl, ⟨mv, b', rfl, hm', hp'⟩, hb'⟩
        obtain ⟨A, c, rfl, _⟩ := hm'.shape
        rw [HLK.out] at hm' ⊢
        exact ⟨⟨A, c, b', rfl⟩, hb', fun A2 c2 b2 he => by simp at he; obtain ⟨⟨rfl, rfl⟩, rfl⟩ := he; exact ⟨hm'.base (below_trans hw hb'), hp'⟩⟩
      obtain ⟨A9, c9, b9, rfl⟩ := hv9
      simp only [Act.put, List.setIfInBounds_toArray, List.set_cons_succ, List.set_cons_zero] at ha
      subst ha
      repeat (first
        | (refine Dv.Chain.step (v := ?_) (a' := ?_) rfl rfl rfl ?_ ?_ ?_
           rotate_left 2
           focus (intro w; go_simp; try with_reducible rfl)
           focus (simp only [Act.put, List.setIfInBounds_toArray, List.set_cons_succ, List.set_cons_zero]; try rfl))
        | (refine Dv.Chain.skip' (a' := ?_) rfl rfl rfl ?_ ?_
           rotate_left 1
           focus (simp only [Act.put, List.setIfInBounds_toArray, List.set_cons_succ, List.set_cons_zero]; try rfl)))
      refine Dv.XT.last _ _ _ rfl rfl (by kernel_rfl) rfl rfl (fun vs wx hw hF => ?_) (fun v10 hv10 a' ha => ?_)
      focus
        have f9 : (fun v w' => LiF K L' mf v w' : Value → World → Prop) _ wx := (hF 9 _ (by kernel_rfl) rfl).1 (by kernel_rfl)
        have q9 := (hF 9 _ (by kernel_rfl) rfl).2
        obtain ⟨f9a, f9b⟩ := f9 _ _ _ rfl
        have hfin := FinL.of (HL9.out.below hw) (HP9.out.below hw) (by omega) f9a f9b hX0 (below_trans HB9.out hw)
        have HFIN := Lib.hid hfin
        obtain ⟨k0, k1, k2⟩ := (HL9.out.below hw).c3
        have u0 := (HL9.out.below hw).free 0
        have u1 := (HL9.out.below hw).free 1
        have u2 := (HL9.out.below hw).free 2
        clear f9 f9a f9b q9 hfin
        go_simp
        exact ⟨undef, HFIN.out _⟩
      obtain _ := hv10
      simp only [Act.put, List.setIfInBounds_toArray, List.set_cons_succ, List.set_cons_zero] at ha
      subst ha
      repeat (first
        | (refine Dv.Chain.step (v := ?_) (a' := ?_) rfl rfl rfl ?_ ?_ ?_
           rotate_left 2
           focus (intro w; go_simp; try with_reducible rfl)
           focus (simp only [Act.put, List.setIfInBounds_toArray, List.set_cons_succ, List.set_cons_zero]; try rfl))
        | (refine Dv.Chain.skip' (a' := ?_) rfl rfl rfl ?_ ?_
           rotate_left 1
           focus (simp only [Act.put, List.setIfInBounds_toArray, List.set_cons_succ, List.set_cons_zero]; try rfl)))
      refine Dv.XT.end_ (by decide) (fun vs w10 hv hfin => ?_)
      obtain ⟨A10, c10, b10, L10, ms10, mp10, P10, B10⟩ := hfin
      have hlst' := HTU2.out.lst
      have h20' : (freeU L' mf).length < 20 := by have := HTU2.out.free; omega
      have hrk := fun (mv : Value) (mb n : Nat) (w' : World) (h1 : MsAt w' w' mv L') (h2 : Mp w' mb n mf) => rank_any 5 mv L' mb n mf w' w' (Below.refl _ _) h1 h2 hlst' h20'
      have htm := fun (mv : Value) (mb n : Nat) (w' : World) (h1 : MsAt w' w' mv L') (h2 : Mp w' mb n mf) => toMark_any 5 mv L' mb n mf w' h1 h2 hlst'
      obtain ⟨rk2, hrk2⟩ : ∃ r, r = rank L' mf := ⟨_, rfl⟩
      obtain ⟨tk, htk⟩ : ∃ k, k = (toMark L' mf).length := ⟨_, rfl⟩
      have hr1 := HRANK.out
      have hm1 := HMARK.out
      rw [← hrk2] at hrk hr1
      rw [← htk] at hm1
      have hr2 : ¬ RK ≤ rk2 := by omega
      have hd1 : decide (RK ≤ rk2) = false := decide_eq_false hr2
      have hd2 : decide ((tk : Int) < (n : Int)) = false := decide_eq_false (by omega)
      have hd3 : ¬ (tk : Int) < (n : Int) := by omega
      have HRK := Lib.hid hrk
      have HTM := Lib.hid htm
      have HTK := Lib.hid htk
      have HL10 := Lib.hid L10
      have HP10 := Lib.hid P10
      have HMS10 := Lib.hid ms10
      have HMP10 := Lib.hid mp10
      have HB10 := Lib.hid B10
      clear hlst' h20' hrk htm hrk2 htk hr1 hm1 L10 P10 ms10 mp10 B10 hv HL9 HP9 HM9 HMP HB9 HSRC HMSQ HNW HEY HK
      go_upto_region 15 with fail
      refine wp_region_facts [(0, (isV (.agg #[.int .i64 5, .slice A10 K c10, .map (some b10)]), noFact)), (1, (isV (.int .i64 rk2), noFact)), (5, (isV (.agg #[.int .i64 5, .slice A10 K c10, .map (some b10)]), noFact)), (6, ((fun v => ∃ A c, v = .slice A tk c), noFact)), (9, (isV (.slice pA n pc), noFact))] (by kernel_rfl) 82 (by kernel_rfl) rfl ?_ ?_ ?_
      · apply lookup_ne
        simp only [List.forall_mem_cons, List.not_mem_nil, false_imp_iff, implies_true, and_true]
        exact ⟨⟨_, rfl⟩, ⟨_, rfl⟩, ⟨_, rfl⟩, ⟨_, none, 0, rfl⟩, ⟨_, rfl⟩⟩
      · apply lookup_st
        simp only [List.forall_mem_cons, List.not_mem_nil, false_imp_iff, implies_true, and_true]
        refine ⟨?_, ?_, ?_, ?_, ?_⟩
        · exact fun _ _ _ _ _ => trivial
        · exact fun _ _ _ _ _ => trivial
        · exact fun _ _ _ _ _ => trivial
        · exact fun _ _ _ _ _ => trivial
        · exact fun _ _ _ _ _ => trivial
      repeat (first
        | (refine Chain.step (v := ?_) (a' := ?_) rfl rfl rfl ?_ ?_ ?_
           rotate_left 2
           focus (intro w; go_simp; try with_reducible rfl)
           focus (simp only [Act.put, List.setIfInBounds_toArray, List.set_cons_succ, List.set_cons_zero]; try rfl))
        | (refine Chain.skip (a' := ?_) rfl rfl rfl ?_ ?_
           rotate_left 1
           focus (simp only [Act.put, List.setIfInBounds_toArray, List.set_cons_succ, List.set_cons_zero]; try rfl)))
      refine Chain.call' (a' := ?_) _ rfl rfl rfl rfl (fun wx hw hF => ?_) ?_ ?_
      rotate_left 1
      focus
        obtain ⟨g0, g1, g2⟩ := Blk.c3 (HL10.out.below hw); go_simp; first | exact ⟨rfl, Below.refl _ _⟩ | exact Below.refl _ _
      focus (simp only [Act.put, List.setIfInBounds_toArray, List.set_cons_succ, List.set_cons_zero]; try rfl)
      repeat (first
        | (refine Chain.step (v := ?_) (a' := ?_) rfl rfl rfl ?_ ?_ ?_
           rotate_left 2
           focus (intro w; go_simp; try with_reducible rfl)
           focus (simp only [Act.put, List.setIfInBounds_toArray, List.set_cons_succ, List.set_cons_zero]; try rfl))
        | (refine Chain.skip (a' := ?_) rfl rfl rfl ?_ ?_
           rotate_left 1
           focus (simp only [Act.put, List.setIfInBounds_toArray, List.set_cons_succ, List.set_cons_zero]; try rfl)))
      refine Chain.call' (a' := ?_) _ rfl rfl rfl rfl (fun wx hw hF => ?_) ?_ ?_
      rotate_left 1
      focus
        go_simp; (with_reducible refine (HRK.out _ _ 12 _ ((HMS10.out.below hw).base hw) (HMP10.out.below hw)).mono ?_); exact (fun e w' ⟨h1, h2⟩ => by subst h1; exact ⟨rfl, h2⟩)
      focus (simp only [Act.put, List.setIfInBounds_toArray, List.set_cons_succ, List.set_cons_zero]; try rfl)
      repeat (first
        | (refine Chain.step (v := ?_) (a' := ?_) rfl rfl rfl ?_ ?_ ?_
           rotate_left 2
           focus (intro w; go_simp; try with_reducible rfl)
           focus (simp only [Act.put, List.setIfInBounds_toArray, List.set_cons_succ, List.set_cons_zero]; try rfl))
        | (refine Chain.skip (a' := ?_) rfl rfl rfl ?_ ?_
           rotate_left 1
           focus (simp only [Act.put, List.setIfInBounds_toArray, List.set_cons_succ, List.set_cons_zero]; try rfl)))
      refine Chain.call' (a' := ?_) _ rfl rfl rfl rfl (fun wx hw hF => ?_) ?_ ?_
      rotate_left 1
      focus
        obtain ⟨g0, g1, g2⟩ := Blk.c3 (HL10.out.below hw); go_simp; first | exact ⟨rfl, Below.refl _ _⟩ | exact Below.refl _ _
      focus (simp only [Act.put, List.setIfInBounds_toArray, List.set_cons_succ, List.set_cons_zero]; try rfl)
      repeat (first
        | (refine Chain.step (v := ?_) (a' := ?_) rfl rfl rfl ?_ ?_ ?_
           rotate_left 2
           focus (intro w; go_simp; try with_reducible rfl)
           focus (simp only [Act.put, List.setIfInBounds_toArray, List.set_cons_succ, List.set_cons_zero]; try rfl))
        | (refine Chain.skip (a' := ?_) rfl rfl rfl ?_ ?_
           rotate_left 1
           focus (simp only [Act.put, List.setIfInBounds_toArray, List.set_cons_succ, List.set_cons_zero]; try rfl)))
      refine Chain.make _ _ rfl rfl rfl (fun wx hw hF => ?_) (fun v6 hv6 a' ha => ?_)
      focus
        go_simp
        with_reducible refine (HTM.out _ _ 12 _ ((HMS10.out.below hw).base hw) (HMP10.out.below hw)).mono ?_
        rintro e w' ⟨v', rfl, hn⟩
        rw [← HTK.out] at hn
        obtain ⟨A, c, rfl, _⟩ := hn.buf.shape
        exact ⟨hn.below, ⟨A, c, rfl⟩, trivial⟩
      obtain ⟨A6', c6', rfl⟩ := hv6
      simp only [Act.put, List.setIfInBounds_toArray, List.set_cons_succ, List.set_cons_zero] at ha
      subst ha
      repeat (first
        | (refine Chain.step (v := ?_) (a' := ?_) rfl rfl rfl ?_ ?_ ?_
           rotate_left 2
           focus (intro w; go_simp; try with_reducible rfl)
           focus (simp only [Act.put, List.setIfInBounds_toArray, List.set_cons_succ, List.set_cons_zero]; try rfl))
        | (refine Chain.skip (a' := ?_) rfl rfl rfl ?_ ?_
           rotate_left 1
           focus (simp only [Act.put, List.setIfInBounds_toArray, List.set_cons_succ, List.set_cons_zero]; try rfl)))
      refine Chain.call' (a' := ?_) _ rfl rfl rfl rfl (fun wx hw hF => ?_) ?_ ?_
      rotate_left 1
      focus
        obtain ⟨g0, g1, g2, g3⟩ := Blk.c4 (HP10.out.below hw); go_simp; first | exact ⟨rfl, Below.refl _ _⟩ | exact Below.refl _ _
      focus (simp only [Act.put, List.setIfInBounds_toArray, List.set_cons_succ, List.set_cons_zero]; try rfl)
      repeat (first
        | (refine Chain.step (v := ?_) (a' := ?_) rfl rfl rfl ?_ ?_ ?_
           rotate_left 2
           focus (intro w; go_simp; try with_reducible rfl)
           focus (simp only [Act.put, List.setIfInBounds_toArray, List.set_cons_succ, List.set_cons_zero]; try rfl))
        | (refine Chain.skip (a' := ?_) rfl rfl rfl ?_ ?_
           rotate_left 1
           focus (simp only [Act.put, List.setIfInBounds_toArray, List.set_cons_succ, List.set_cons_zero]; try rfl)))
      refine Chain.end_ (fun wz hwz _ => ?_)
      have L11 := HL10.out.below hwz
      have ms11 := (HMS10.out.below hwz).base hwz
      have mp11 := HMP10.out.below hwz
      have B11 := below_trans HB10.out hwz
      rw [← HLK.out] at L11 ms11
      clear HL10 HMS10 HMP10 HB10 HP10 hwz HRK HTM
      go_wp2_with fail
      go_roundw
      case rel => exact ⟨t + 1, L', A10, c10, b10, by go_num, by omega, HTU2, L11, ms11, mp11, B11⟩
      case measure => simp [intOf]; omega

open Go.ChangeShapes Go.WideShapes Go.ChangeAt
open Go.ChangeMaps (open_string shut_string)

set_option maxRecDepth 100000 in
theorem planEnds_lifted (os : Os) (started : os.Started) (H : Type) (enc : TypeId × Value → H) :
    ReturnsInHanded {} Try.checked os 6 .any (Rows.planEndsSpec.pre6 enc Try.prog Try.f6 Rows.planEndsRow.domain false) (Rows.planEndsSpec.post enc Try.prog Try.f6 false true false false) := by
  refine returnsInHanded_of_change_sized (C := Try.checked) law_own started (by kernel_rfl) Try.func6
    (ChangeSpec.witness6 (enc := enc) (C := Try.checked) false ⟨#[], #[.slice none 0 0, .int .i64 0], []⟩ 8 (by kernel_rfl) (by kernel_rfl) (by kernel_rfl) (by kernel_rfl)) ?_
  intro W base args ds gs before hval0 hW _ hsz0 _
  have hval : ∀ (j : Nat) t v, Try.f6.params[j]? = some t → args[j]? = some v → Value.okWide Try.prog W .any base t v := hval0
  have hsz : (DataW.weightsEach Try.prog (Try.f6.params.toList ++ Rows.planEndsSpec.plain.varTypes Try.prog) (ds ++ gs)).all (· ≤ reachBytes) = true := hsz0
  have hW' := hW
  obtain ⟨p, q, hA0, hV, rfl, _, _⟩ := hW
  have hA : DataW.TrodAll enc Try.prog W 0 (fun _ => true) true Try.f6.params.toList args.toList ds p := hA0
  rw [Try.params6] at hA hval hsz
  obtain ⟨v0, vs0, d0, ds0, p0, q0, hargs, rfl, rfl, h0, r0⟩ := trodAll_cons hA
  obtain ⟨v1, vs1, d1, ds1, p1, q1, rfl, rfl, rfl, h1, r1⟩ := trodAll_cons r0
  obtain ⟨rfl, rfl, rfl⟩ := trodAll_nil r1
  obtain rfl : args = #[v0, v1] := by cases args; simp_all
  obtain ⟨rfl, rfl⟩ := trodVars_none hV
  obtain ⟨a1, rfl, rfl, rfl, w1⟩ := open_int Try.underlying2 (hval 1 2 v1 rfl rfl) h1
  obtain ⟨ts0, hts0⟩ := open_ones (hval 0 22 v0 rfl rfl) h0
  refine (planEnds_walk0 v0 ts0 a1 w1 W hts0).mono fun e W' ⟨he, hb⟩ => ?_
  subst he
  exact ⟨_, rfl, law_post law_laid (by intro t ht; rw [Try.params6] at ht; simp only [List.mem_cons, List.not_mem_nil, or_false] at ht; rcases ht with rfl | rfl <;> exact ⟨by kernel_rfl, of_decide_eq_true (by kernel_rfl)⟩) rfl Try.underlying4 rfl rfl hW' hb⟩

theorem planEnds_holds : Rows.PlanEndsSaid :=
  OpenClaim.holds_of_wide 6 Try.f6 rfl rfl rfl rfl rfl rfl rfl ⟨rfl, rfl, rfl, rfl, rfl⟩ rfl rfl rfl rfl rfl (by kernel_rfl) Try.func6 (by kernel_rfl)
    (of_decide_eq_true (by kernel_rfl)) (by unfold Func.isWrapper; first | (rw [if_pos (by decide +kernel)]; kernel_rfl) | (rw [if_neg (by decide +kernel)]; exact ⟨rfl, rfl⟩))
    (fun os started H enc _ => planEnds_lifted os started H enc)

end Go.Proofs.Ytemmgejaoegpfaa
