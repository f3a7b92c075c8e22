/-
  A region that draws its order, whose operations leave facts of their values until the last one, which may write. Over Lib10's rule. Plain lemmas over any program; no condition.
-/
import Derived.Test.YtjklcojnbcemoaaGreatDoorZLib10
import Derived.Test.YtjklcojnbcemoaaGreatDoorZLib9

namespace Go.Bar.Dv
open Go.RowKit Go.Bar Go.Bar.Dn

/-- what is kept of the operations: a class of its value, a fact of it -/
abbrev Kp := (Value → Prop) × (Value → World → Prop) × Nat
def clsOf (L : List (Nat × Kp)) : Nat → Option (Value → Prop) := fun k => (L.lookup k).map (·.1)
def factOf (L : List (Nat × Kp)) (k : Nat) : Value → World → Prop := match L.lookup k with
  | some g => g.2.1
  | none => fun _ _ => True
/-- which operation ends the fact -/
def lifeOf (L : List (Nat × Kp)) (k : Nat) : Nat := match L.lookup k with
  | some g => g.2.2
  | none => 0
theorem lookup_mem {L : List (Nat × Kp)} {k : Nat} {g : Kp} (h : L.lookup k = some g) : ∃ x ∈ L, x.2 = g := by
  induction L with
  | nil => cases h
  | cons x L ih =>
    obtain ⟨k', g'⟩ := x
    rw [List.lookup_cons] at h
    split at h
    · injection h with h; exact ⟨(k', g'), by simp, h⟩
    · obtain ⟨y, hy, e⟩ := ih h
      exact ⟨y, by simp [hy], e⟩
/-- a fact that what comes later does not turn -/
theorem fact_st {L : List (Nat × Kp)} (h : ∀ x ∈ L, ∀ v w w', Below w.heap.size w w' → x.2.2.1 v w → x.2.2.1 v w') : ∀ k v w w', Below w.heap.size w w' → factOf L k v w → factOf L k v w' := by
  intro k v w w' hb hf
  unfold factOf at hf ⊢
  rcases hl : L.lookup k with _ | g
  · trivial
  · rw [hl] at hf
    obtain ⟨x, hx, rfl⟩ := lookup_mem hl
    exact h x hx v w w' hb hf
/-- until the last one the facts hold; then Fin -/
structure XT (ops : Array Oper) (w0 : World) (m : Nat) (L : List (Nat × Kp)) (Fin : (Nat → Value) → World → Prop) (vs : Nat → Value) (D : Nat → Bool) (w : World) : Prop where
  bel : Below w0.heap.size w0 w ∨ D m = true
  cl : ∀ k j, (L.lookup k).isSome = true → (L.lookup j).isSome = true → D k = true → preB ops k j = true → D j = true
  facts : D m = false → ∀ k, D k = true → D (lifeOf L k) = false → factOf L k (vs k) w
  fin : D m = true → Fin vs w ∧ ∀ j, j < m → D j = true
section
variable {P : Program} {ops : Array Oper} {w0 : World} {m : Nat} {L : List (Nat × Kp)} {Fin : (Nat → Value) → World → Prop} {Qn : Act → World → Prop} {n : Nat} {a0 : Act}
theorem fact_none {k : Nat} (h : clsOf L k = none) (v : Value) (w : World) : factOf L k v w := by
  unfold clsOf at h
  unfold factOf
  rcases hl : L.lookup k with _ | g
  · exact trivial
  · rw [hl] at h; cases h
theorem wp_region_two {id : Nat} {Q : Exit → Act → World → Prop} (hm : P.follows .mixedOrders = true) (n : Nat) (hf : regionFits ops n = true) (hn : a0.tmps.size = n) (hl : (L.lookup m).isSome = true)
    (hne : ∀ x ∈ L, ∃ v, x.2.1 v) (hfc : ∀ vs vs' w, (∀ j, (L.lookup j).isSome = true → j ≤ m → vs j = vs' j) → Fin vs w → Fin vs' w)
    (hc : Chain P ops (clsOf L) (XT ops w0 m L Fin) (Q .normal) 0 ops.toList a0 []) : (Code.region id ops true).wp P Q a0 w0 := by
  refine wp_region_chain (clsOf L) (XT ops w0 m L Fin) hm n hf hn ?_ ?_ ?_ ⟨.inl (Below.refl _ _).drew, fun _ _ _ _ h => (by cases h), fun _ k h => (by cases h), fun h => (by cases h)⟩ hc
  · intro k g hk
    unfold clsOf at hk
    rcases hl : L.lookup k with _ | g'
    · rw [hl] at hk; cases hk
    · rw [hl] at hk
      injection hk with hk
      subst hk
      obtain ⟨x, hx, rfl⟩ := lookup_mem hl
      exact hne x hx
  · intro vs vs' D w he hx
    refine ⟨hx.bel, hx.cl, fun hd k hk hl => by rw [← he k hk]; exact hx.facts hd k hk hl, fun hd => ⟨hfc vs vs' w (fun j _ hj => ?_) (hx.fin hd).1, (hx.fin hd).2⟩⟩
    rcases Nat.lt_or_ge j m with h | h
    · exact he j ((hx.fin hd).2 j h)
    · obtain rfl : j = m := by omega
      exact he j hd
  · intro i vs D w v hi hx
    have him : i ≠ m := fun e => by
      subst e
      unfold clsOf at hi
      rcases hh : L.lookup i with _ | g
      · rw [hh] at hl; cases hl
      · rw [hh] at hi; cases hi
    have hnt : ∀ j, (L.lookup j).isSome = true → j ≠ i := fun j hj e => by
      subst e
      unfold clsOf at hi
      rcases hh : L.lookup j with _ | g
      · rw [hh] at hj; cases hj
      · rw [hh] at hi; cases hi
    refine ⟨hx.bel.imp (fun h => h) fun h => by rw [upd_ne D (fun e => him e.symm)]; exact h, fun k j hk hj hd hp => ?_, fun hd k hk hlf => ?_, fun hd => ?_⟩
    · rw [upd_ne D (hnt k hk)] at hd
      rw [upd_ne D (hnt j hj)]
      exact hx.cl k j hk hj hd hp
    · rw [upd_ne D (fun e => him e.symm)] at hd
      by_cases e : k = i
      · subst e; exact fact_none hi _ _
      · rw [updV_ne vs v e]
        rw [upd_ne D e] at hk
        rcases hh : L.lookup k with _ | g
        · exact fact_none (by unfold clsOf; rw [hh]; rfl) _ _
        · refine hx.facts hd k hk ?_
          by_cases e2 : lifeOf L k = i
          · rw [e2, upd_self] at hlf; cases hlf
          · rwa [upd_ne D e2] at hlf
    · rw [upd_ne D (fun e => him e.symm)] at hd
      refine ⟨hfc vs _ w (fun j hj _ => ?_) (hx.fin hd).1, fun j hj => ?_⟩
      · rw [updV_ne vs v (hnt j hj)]
      · by_cases e : j = i
        · rw [e, upd_self]
        · rw [upd_ne D e]; exact (hx.fin hd).2 j hj
variable {M : List (Nat × Value)} {i i' : Nat} {o : Oper} {rest : List Oper} {a a' : Act}
theorem Chain.skip' (hG : clsOf L i = none) (hw : Region.wanted o (yielded ops a.tmps) = false) (hi : i + 1 = i') (ha : a.put o.dst undef = a')
    (hc : Chain P ops (clsOf L) (XT ops w0 m L Fin) Qn i' rest a' M) : Chain P ops (clsOf L) (XT ops w0 m L Fin) Qn i (o :: rest) a M := by
  subst ha; subst hi
  unfold Chain
  rw [hG]
  exact ⟨undef, .inr ⟨hw, rfl⟩, hc⟩
/-- an operation ahead of the last one; lv: the facts that live on when it is met -/
theorem XT.any (C : Value → Prop) (g : Value → World → Prop) (lf : Nat) (hG : L.lookup i = some (C, g, lf)) (him : i < m) (hw : Region.wanted o (yielded ops a.tmps) = true) (hi : i + 1 = i')
    (hp : ∀ (vs : Nat → Value) (D : Nat → Bool) (wx : World), Below w0.heap.size w0 wx → D i = false → (∀ j, preB ops i j = true → D j = true) → (∀ k j, (L.lookup k).isSome = true → (L.lookup j).isSome = true → D k = true → preB ops k j = true → D j = true) → (∀ k, D k = true → D (lifeOf L k) = false → factOf L k (vs k) wx) → (∀ j v, preB ops i j = true → M.lookup j = some v → D (lifeOf L j) = false → factOf L j v wx) →
      o.wp P a wx (fun a' w' => ∃ v, a' = a.put o.dst v ∧ C v ∧ Below w0.heap.size w0 w' ∧ g v w' ∧ ∀ k, k ≠ i → D k = true → D (lifeOf L k) = false → lifeOf L k ≠ i → factOf L k (vs k) w') (fun _ _ _ => False))
    (hc : ∀ v, C v → ∀ a', a.put o.dst v = a' → Chain P ops (clsOf L) (XT ops w0 m L Fin) Qn i' rest a' ((i, v) :: M)) : Chain P ops (clsOf L) (XT ops w0 m L Fin) Qn i (o :: rest) a M := by
  refine Chain.make C (by unfold clsOf; rw [hG]; rfl) hw hi (fun vs D wx hx hD hpre hv => ?_) hc
  have hdm : D m = false := by
    rcases h : D m with _ | _
    · rfl
    · have := (hx.fin h).2 i him
      rw [hD] at this; cases this
  have hbl : Below w0.heap.size w0 wx := by
    rcases hx.bel with h | h
    · exact h
    · rw [hdm] at h; cases h
  refine Oper.wp_mono (fun a' w' ⟨v, h1, h2, h3, h4, h5⟩ => ⟨v, h1, h2, .inl h3, fun k j hk hj hd hpj => ?_, fun _ k hk hlf => ?_, fun h => ?_⟩) (hp vs D wx hbl hD hpre hx.cl (hx.facts hdm) fun j v hj hl hlf => by
    have := hx.facts hdm j (hpre j hj) hlf
    rwa [hv j v hj hl] at this)
  · by_cases e : j = i
    · rw [e, upd_self]
    · rw [upd_ne D e]
      by_cases e2 : k = i
      · subst e2; exact hpre j hpj
      · rw [upd_ne D e2] at hd
        exact hx.cl k j hk hj hd hpj
  · by_cases e : k = i
    · subst e
      rw [updV_self]
      unfold factOf
      rw [hG]
      exact h4
    · rw [updV_ne vs v e]
      rw [upd_ne D e] at hk
      rcases hh : L.lookup k with _ | g
      · exact fact_none (by unfold clsOf; rw [hh]; rfl) _ _
      · by_cases e2 : lifeOf L k = i
        · rw [e2, upd_self] at hlf; cases hlf
        · rw [upd_ne D e2] at hlf
          exact h5 k e hk hlf e2
  · rw [upd_ne D (by omega)] at h
    rw [hdm] at h; cases h
/-- an operation ahead of the last one that leaves what was there -/
theorem XT.make (C : Value → Prop) (g : Value → World → Prop) (lf : Nat) (hG : L.lookup i = some (C, g, lf)) (him : i < m) (hst : ∀ k v w w', Below w.heap.size w w' → factOf L k v w → factOf L k v w') (hw : Region.wanted o (yielded ops a.tmps) = true) (hi : i + 1 = i')
    (hp : ∀ wx, Below w0.heap.size w0 wx → (∀ j v, preB ops i j = true → M.lookup j = some v → (lifeOf L j == i || preB ops (lifeOf L j) i) = true → factOf L j v wx) → o.wp P a wx (fun a' w' => ∃ v, a' = a.put o.dst v ∧ C v ∧ Below wx.heap.size wx w' ∧ g v w') (fun _ _ _ => False))
    (htr : ∀ x ∈ L, (L.lookup x.2.2.2).isSome = true)
    (hc : ∀ v, C v → ∀ a', a.put o.dst v = a' → Chain P ops (clsOf L) (XT ops w0 m L Fin) Qn i' rest a' ((i, v) :: M)) : Chain P ops (clsOf L) (XT ops w0 m L Fin) Qn i (o :: rest) a M := by
  refine XT.any C g lf hG him hw hi (fun vs D wx hx hD hpre hcl hfs hF => ?_) hc
  refine Oper.wp_mono (fun a' w' ⟨v, h1, h2, h3, h4⟩ => ⟨v, h1, h2, below_trans hx h3, h4, fun k _ hk hlf _ => hst k _ _ _ h3 (hfs k hk hlf)⟩) (hp wx hx fun j v hj hl hlf => ?_)
  rcases hh : L.lookup j with _ | gj
  · exact fact_none (by unfold clsOf; rw [hh]; rfl) _ _
  · refine hF j v hj hl ?_
    have hll : (L.lookup (lifeOf L j)).isSome = true := by
      obtain ⟨x, hx, e⟩ := lookup_mem hh
      have := htr x hx
      unfold lifeOf
      rw [hh]
      rw [e] at this
      exact this
    rw [Bool.or_eq_true, beq_iff_eq] at hlf
    rcases hlf with hlf | hlf
    · rw [hlf]; exact hD
    · rcases hdl : D (lifeOf L j) with _ | _
      · rfl
      · have := hcl (lifeOf L j) i hll (by rw [hG]; rfl) hdl hlf
        rw [hD] at this; cases this
theorem XT.call (c : Value) (lf : Nat) (hG : L.lookup i = some ((fun v => v = c), noFact, lf)) (him : i < m) (hst : ∀ k v w w', Below w.heap.size w w' → factOf L k v w → factOf L k v w') (hw : Region.wanted o (yielded ops a.tmps) = true) (hi : i + 1 = i')
    (hp : ∀ wx, Below w0.heap.size w0 wx → (∀ j v, preB ops i j = true → M.lookup j = some v → (lifeOf L j == i || preB ops (lifeOf L j) i) = true → factOf L j v wx) → o.wp P a wx (fun a' w' => a' = a.put o.dst c ∧ Below wx.heap.size wx w') (fun _ _ _ => False))
    (htr : ∀ x ∈ L, (L.lookup x.2.2.2).isSome = true)
    (ha : a.put o.dst c = a') (hc : Chain P ops (clsOf L) (XT ops w0 m L Fin) Qn i' rest a' ((i, c) :: M)) : Chain P ops (clsOf L) (XT ops w0 m L Fin) Qn i (o :: rest) a M := by
  subst ha
  refine XT.make (fun v => v = c) noFact lf hG him hst hw hi (fun wx hx hF => Oper.wp_mono (fun _ w' ⟨h1, h2⟩ => ⟨c, h1, rfl, h2, trivial⟩) (hp wx hx hF)) htr ?_
  rintro v rfl a' rfl
  exact hc
/-- an operation ahead of the last one that writes into what the region has made -/
theorem XT.write (C : Value → Prop) (g : Value → World → Prop) (lf : Nat) (hG : L.lookup i = some (C, g, lf)) (him : i < m) (hw : Region.wanted o (yielded ops a.tmps) = true) (hi : i + 1 = i')
    (hen : (L.all fun x => x.2.2.2 == x.1 || x.1 == i || x.2.2.2 == i || preB ops i x.2.2.2 || preB ops x.1 i) = true)
    (hp : ∀ wx, Below w0.heap.size w0 wx → (∀ j v, preB ops i j = true → M.lookup j = some v → (lifeOf L j == i || preB ops (lifeOf L j) i) = true → factOf L j v wx) → o.wp P a wx (fun a' w' => ∃ v, a' = a.put o.dst v ∧ C v ∧ Below w0.heap.size w0 w' ∧ g v w') (fun _ _ _ => False))
    (htr : ∀ x ∈ L, (L.lookup x.2.2.2).isSome = true)
    (hc : ∀ v, C v → ∀ a', a.put o.dst v = a' → Chain P ops (clsOf L) (XT ops w0 m L Fin) Qn i' rest a' ((i, v) :: M)) : Chain P ops (clsOf L) (XT ops w0 m L Fin) Qn i (o :: rest) a M := by
  refine XT.any C g lf hG him hw hi (fun vs D wx hx hD hpre hcl hfs hF => ?_) hc
  refine Oper.wp_mono (fun a' w' ⟨v, h1, h2, h3, h4⟩ => ⟨v, h1, h2, h3, h4, fun k hk1 hk hlf hk2 => ?_⟩) (hp wx hx fun j v hj hl hlf => ?_)
  rotate_left 1
  · rcases hh : L.lookup k with _ | gk
    · exact fact_none (by unfold clsOf; rw [hh]; rfl) _ _
    · exfalso
      have hmem : (k, gk) ∈ L := by
        clear hG hcl hfs hF hp htr hc hen h4 hlf hk2
        induction L with
        | nil => cases hh
        | cons x L ih =>
          obtain ⟨k', g'⟩ := x
          rw [List.lookup_cons] at hh
          split at hh
          · rename_i he
            injection hh with hh
            rw [hh, eq_of_beq he]; simp
          · exact List.mem_cons_of_mem _ (ih hh)
      rw [List.all_eq_true] at hen
      have hx2 := hen _ hmem
      have hlk : lifeOf L k = gk.2.2 := by unfold lifeOf; rw [hh]
      rw [hlk] at hlf hk2
      simp only [Bool.or_eq_true, beq_iff_eq] at hx2
      rcases hx2 with (((h | h) | h) | h) | h
      · rw [h, hk] at hlf; cases hlf
      · exact hk1 h
      · exact hk2 h
      · have := hpre _ h
        rw [this] at hlf; cases hlf
      · have := hcl k i (by rw [hh]; rfl) (by rw [hG]; rfl) hk h
        rw [hD] at this; cases this
  · rcases hh : L.lookup j with _ | gj
    · exact fact_none (by unfold clsOf; rw [hh]; rfl) _ _
    · refine hF j v hj hl ?_
      have hll : (L.lookup (lifeOf L j)).isSome = true := by
        obtain ⟨x, hx, e⟩ := lookup_mem hh
        have := htr x hx
        unfold lifeOf
        rw [hh]
        rw [e] at this
        exact this
      rw [Bool.or_eq_true, beq_iff_eq] at hlf
      rcases hlf with hlf | hlf
      · rw [hlf]; exact hD
      · rcases hdl : D (lifeOf L j) with _ | _
        · rfl
        · have := hcl (lifeOf L j) i hll (by rw [hG]; rfl) hdl hlf
          rw [hD] at this; cases this
/-- the last one -/
theorem XT.last (C : Value → Prop) (g : Value → World → Prop) (lf : Nat) (hG : L.lookup i = some (C, g, lf)) (him : i = m) (hall : ((List.range m).all fun j => preB ops m j) = true) (hw : Region.wanted o (yielded ops a.tmps) = true) (hi : i + 1 = i')
    (hp : ∀ vs wx, Below w0.heap.size w0 wx → (∀ j v, preB ops i j = true → M.lookup j = some v → ((lifeOf L j == i) = true → factOf L j v wx) ∧ vs j = v) → o.wp P a wx (fun a' w' => ∃ v, a' = a.put o.dst v ∧ C v ∧ Fin (updV vs m v) w') (fun _ _ _ => False))
    (hc : ∀ v, C v → ∀ a', a.put o.dst v = a' → Chain P ops (clsOf L) (XT ops w0 m L Fin) Qn i' rest a' ((i, v) :: M)) : Chain P ops (clsOf L) (XT ops w0 m L Fin) Qn i (o :: rest) a M := by
  subst him
  refine Chain.make C (by unfold clsOf; rw [hG]; rfl) hw hi (fun vs D wx hx hD hpre hv => ?_) hc
  have hbl : Below w0.heap.size w0 wx := by
    rcases hx.bel with h | h
    · exact h
    · rw [hD] at h; cases h
  have hdn : ∀ j, j < i → D j = true := fun j hj => by
    rw [List.all_eq_true] at hall
    exact hpre j (hall j (List.mem_range.2 hj))
  refine Oper.wp_mono (fun a' w' ⟨v, h1, h2, h4⟩ => ⟨v, h1, h2, .inr (upd_self D i), fun k j hk hj hd hpj => ?_, fun h => (by rw [upd_self] at h; cases h), fun _ => ⟨h4, fun j hj => ?_⟩⟩) (hp vs wx hbl fun j v hj hl => ⟨fun hlf => by
    have := hx.facts hD j (hpre j hj) (by rw [beq_iff_eq.1 hlf]; exact hD)
    rwa [hv j v hj hl] at this, hv j v hj hl⟩)
  · by_cases e : j = i
    · rw [e, upd_self]
    · rw [upd_ne D e]
      by_cases e2 : k = i
      · subst e2; exact hpre j hpj
      · rw [upd_ne D e2] at hd
        exact hx.cl k j hk hj hd hpj
  · rw [upd_ne D (by omega)]
    exact hdn j hj
theorem XT.end_ (hm : m < ops.size) (h : ∀ vs w, (∀ j v, M.lookup j = some v → vs j = v) → Fin vs w → Qn a w) : Chain P ops (clsOf L) (XT ops w0 m L Fin) Qn i [] a M :=
  Chain.end_ fun vs _ w hD hx hv => h vs w hv (hx.fin (hD m hm)).1
end
end Go.Bar.Dv

/-
  Library 26: a region that draws its order and writes twice: at operation p, behind which some reads may still come, and at its last operation m.
-/
namespace Go.Bar.Dv
open Go.RowKit Go.Bar Go.Bar.Dn

abbrev Kq : Type := (Value → Prop) × (Value → World → Prop)
def clsQ (L : List (Nat × Kq)) : Nat → Option (Value → Prop) := fun k => (L.lookup k).map (·.1)
def factQ (L : List (Nat × Kq)) (k : Nat) : Value → World → Prop := match L.lookup k with
  | some g => g.2
  | none => fun _ _ => True
theorem lookupQ_mem {L : List (Nat × Kq)} {k : Nat} {g : Kq} (h : L.lookup k = some g) : ∃ x ∈ L, x.2 = g := by
  induction L with
  | nil => cases h
  | cons x L ih =>
    obtain ⟨k', g'⟩ := x
    rw [List.lookup_cons] at h
    split at h
    · injection h with h
      exact ⟨_, List.mem_cons_self .., h⟩
    · obtain ⟨x, hx, e⟩ := ih h
      exact ⟨x, List.mem_cons_of_mem _ hx, e⟩
theorem factQ_none {L : List (Nat × Kq)} {k : Nat} (h : clsQ L k = none) (v : Value) (w : World) : factQ L k v w := by
  unfold clsQ at h
  unfold factQ
  rcases hl : L.lookup k with _ | g
  · exact trivial
  · rw [hl] at h; cases h
theorem factQ_st {L : List (Nat × Kq)} (h : ∀ x ∈ L, ∀ v w w', Below w.heap.size w w' → x.2.2 v w → x.2.2 v w') : ∀ k v w w', Below w.heap.size w w' → factQ L k v w → factQ L k v w' := by
  intro k v w w' hb hf
  unfold factQ at hf ⊢
  rcases hl : L.lookup k with _ | g
  · exact trivial
  · rw [hl] at hf
    obtain ⟨x, hx, rfl⟩ := lookupQ_mem hl
    exact h x hx v w w' hb hf
/-- ahead of p the facts hold; then Mid; behind m Fin -/
structure XP (ops : Array Oper) (w0 : World) (p m : Nat) (L : List (Nat × Kq)) (Mid Fin : (Nat → Value) → World → Prop) (vs : Nat → Value) (D : Nat → Bool) (w : World) : Prop where
  a : D p = false → Below w0.heap.size w0 w ∧ ∀ k, D k = true → factQ L k (vs k) w
  b : D p = true → D m = false → Mid vs w
  c : D m = true → Fin vs w ∧ ∀ j, j < m → D j = true
  e : D p = true → ∀ j, (L.lookup j).isSome = true → preB ops p j = true → D j = true
section
variable {P : Program} {ops : Array Oper} {w0 : World} {p m : Nat} {L : List (Nat × Kq)} {Mid Fin : (Nat → Value) → World → Prop} {Qn : Act → World → Prop} {n : Nat} {a0 : Act}
theorem clsQ_not {i : Nat} (hi : clsQ L i = none) : ∀ j, (L.lookup j).isSome = true → j ≠ i := fun j hj e => by
  subst e
  unfold clsQ at hi
  rcases hh : L.lookup j with _ | g
  · rw [hh] at hj; cases hj
  · rw [hh] at hi; cases hi
theorem wp_region_piv {id : Nat} {Q : Exit → Act → World → Prop} (hm : P.follows .mixedOrders = true) (n : Nat) (hf : regionFits ops n = true) (hn : a0.tmps.size = n) (hp : (L.lookup p).isSome = true) (hl : (L.lookup m).isSome = true)
    (hne : ∀ x ∈ L, ∃ v, x.2.1 v) (hmd : ∀ vs vs' w, (∀ j, (L.lookup j).isSome = true → (preB ops p j = true ∨ j = p) → vs j = vs' j) → Mid vs w → Mid vs' w) (hfc : ∀ vs vs' w, (∀ j, (L.lookup j).isSome = true → j ≤ m → vs j = vs' j) → Fin vs w → Fin vs' w)
    (hc : Chain P ops (clsQ L) (XP ops w0 p m L Mid Fin) (Q .normal) 0 ops.toList a0 []) : (Code.region id ops true).wp P Q a0 w0 := by
  refine wp_region_chain (clsQ L) (XP ops w0 p m L Mid Fin) hm n hf hn ?_ ?_ ?_ ⟨fun _ => ⟨(Below.refl _ _).drew, fun k h => (by cases h)⟩, fun h => (by cases h), fun h => (by cases h), fun h => (by cases h)⟩ hc
  · intro k g hk
    unfold clsQ at hk
    rcases hl : L.lookup k with _ | g'
    · rw [hl] at hk; cases hk
    · rw [hl] at hk
      injection hk with hk
      subst hk
      obtain ⟨x, hx, rfl⟩ := lookupQ_mem hl
      exact hne x hx
  · intro vs vs' D w he hx
    refine ⟨fun hd => ⟨(hx.a hd).1, fun k hk => by rw [← he k hk]; exact (hx.a hd).2 k hk⟩, fun h1 h2 => hmd vs vs' w (fun j hj hpj => ?_) (hx.b h1 h2), fun hd => ⟨hfc vs vs' w (fun j _ hj => ?_) (hx.c hd).1, (hx.c hd).2⟩, hx.e⟩
    · rcases hpj with h | rfl
      · exact he j (hx.e h1 j hj h)
      · exact he _ h1
    · rcases Nat.lt_or_ge j m with h | h
      · exact he j ((hx.c hd).2 j h)
      · obtain rfl : j = m := by omega
        exact he j hd
  · intro i vs D w v hi hx
    have hnt := clsQ_not hi
    have hip := hnt p hp
    have him := hnt m hl
    refine ⟨fun hd => ?_, fun h1 h2 => ?_, fun hd => ?_, fun h1 j hj hpj => ?_⟩
    · rw [upd_ne D hip] at hd
      refine ⟨(hx.a hd).1, fun k hk => ?_⟩
      by_cases e : k = i
      · subst e; exact factQ_none hi _ _
      · rw [updV_ne vs v e]
        rw [upd_ne D e] at hk
        exact (hx.a hd).2 k hk
    · rw [upd_ne D hip] at h1
      rw [upd_ne D him] at h2
      exact hmd vs _ w (fun j hj _ => by rw [updV_ne vs v (hnt j hj)]) (hx.b h1 h2)
    · rw [upd_ne D him] at hd
      refine ⟨hfc vs _ w (fun j hj _ => by rw [updV_ne vs v (hnt j hj)]) (hx.c hd).1, fun j hj => ?_⟩
      by_cases e : j = i
      · rw [e, upd_self]
      · rw [upd_ne D e]; exact (hx.c hd).2 j hj
    · rw [upd_ne D hip] at h1
      rw [upd_ne D (hnt j hj)]
      exact hx.e h1 j hj hpj
variable {M : List (Nat × Value)} {i i' : Nat} {o : Oper} {rest : List Oper} {a a' : Act}
theorem XP.skip (hG : clsQ L i = none) (hw : Region.wanted o (yielded ops a.tmps) = false) (hi : i + 1 = i') (ha : a.put o.dst undef = a')
    (hc : Chain P ops (clsQ L) (XP ops w0 p m L Mid Fin) Qn i' rest a' M) : Chain P ops (clsQ L) (XP ops w0 p m L Mid Fin) Qn i (o :: rest) a M := by
  subst ha; subst hi
  unfold Chain
  rw [hG]
  exact ⟨undef, .inr ⟨hw, rfl⟩, hc⟩
theorem dm_no {vs : Nat → Value} {D : Nat → Bool} {w : World} (hx : XP ops w0 p m L Mid Fin vs D w) (him : i < m) (hD : D i = false) : D m = false := by
  rcases h : D m with _ | _
  · rfl
  · have := (hx.c h).2 i him
    rw [hD] at this; cases this
/-- an operation that surely comes ahead of p -/
theorem XP.make (C : Value → Prop) (g : Value → World → Prop) (hG : L.lookup i = some (C, g)) (hip : i < p) (hpm : p < m) (hpb : preB ops p i = true) (hst : ∀ k v w w', Below w.heap.size w w' → factQ L k v w → factQ L k v w') (hw : Region.wanted o (yielded ops a.tmps) = true) (hi : i + 1 = i')
    (hp : ∀ wx, Below w0.heap.size w0 wx → (∀ j v, preB ops i j = true → M.lookup j = some v → factQ L j v wx) → o.wp P a wx (fun a' w' => ∃ v, a' = a.put o.dst v ∧ C v ∧ Below wx.heap.size wx w' ∧ g v w') (fun _ _ _ => False))
    (hc : ∀ v, C v → ∀ a', a.put o.dst v = a' → Chain P ops (clsQ L) (XP ops w0 p m L Mid Fin) Qn i' rest a' ((i, v) :: M)) : Chain P ops (clsQ L) (XP ops w0 p m L Mid Fin) Qn i (o :: rest) a M := by
  refine Chain.make C (by unfold clsQ; rw [hG]; rfl) hw hi (fun vs D wx hx hD hpre hv => ?_) hc
  have hdp : D p = false := by
    rcases h : D p with _ | _
    · rfl
    · have := hx.e h i (by rw [hG]; rfl) hpb
      rw [hD] at this; cases this
  obtain ⟨hb, hf⟩ := hx.a hdp
  refine Oper.wp_mono (fun a' w' ⟨v, h1, h2, h3, h4⟩ => ⟨v, h1, h2, fun _ => ⟨below_trans hb h3, fun k hk => ?_⟩, fun h => ?_, fun h => ?_, fun h => ?_⟩) (hp wx hb fun j v hj hl => by
    have := hf j (hpre j hj)
    rwa [hv j v hj hl] at this)
  · by_cases e : k = i
    · subst e
      rw [updV_self]
      unfold factQ
      rw [hG]
      exact h4
    · rw [updV_ne vs v e]
      rw [upd_ne D e] at hk
      exact hst k _ _ _ h3 (hf k hk)
  · rw [upd_ne D (by omega), hdp] at h; cases h
  · rw [upd_ne D (by omega), dm_no hx (by omega) hD] at h; cases h
  · rw [upd_ne D (by omega), hdp] at h; cases h
/-- a read that may come ahead of p or behind it -/
theorem XP.late (C : Value → Prop) (hG : L.lookup i = some (C, noFact)) (hip : i ≠ p) (him : i < m) (hpb : preB ops p i = false) (hmd : ∀ vs vs' w, (∀ j, (L.lookup j).isSome = true → (preB ops p j = true ∨ j = p) → vs j = vs' j) → Mid vs w → Mid vs' w) (hw : Region.wanted o (yielded ops a.tmps) = true) (hi : i + 1 = i')
    (h1 : ∀ wx, Below w0.heap.size w0 wx → (∀ j v, preB ops i j = true → M.lookup j = some v → factQ L j v wx) → o.wp P a wx (fun a' w' => ∃ v, a' = a.put o.dst v ∧ C v ∧ w' = wx) (fun _ _ _ => False))
    (h2 : ∀ vs wx, Mid vs wx → (∀ j v, preB ops i j = true → M.lookup j = some v → vs j = v) → o.wp P a wx (fun a' w' => ∃ v, a' = a.put o.dst v ∧ C v ∧ w' = wx) (fun _ _ _ => False))
    (hc : ∀ v, C v → ∀ a', a.put o.dst v = a' → Chain P ops (clsQ L) (XP ops w0 p m L Mid Fin) Qn i' rest a' ((i, v) :: M)) : Chain P ops (clsQ L) (XP ops w0 p m L Mid Fin) Qn i (o :: rest) a M := by
  refine Chain.make C (by unfold clsQ; rw [hG]; rfl) hw hi (fun vs D wx hx hD hpre hv => ?_) hc
  have hdm := dm_no hx him hD
  have hstep : o.wp P a wx (fun a' w' => ∃ v, a' = a.put o.dst v ∧ C v ∧ w' = wx) (fun _ _ _ => False) := by
    rcases h : D p with _ | _
    · exact h1 wx (hx.a h).1 fun j v hj hl => by
        have := (hx.a h).2 j (hpre j hj)
        rwa [hv j v hj hl] at this
    · exact h2 vs wx (hx.b h hdm) hv
  refine Oper.wp_mono (fun a' w' ⟨v, g1, g2, g3⟩ => ⟨v, g1, g2, fun hd => ?_, fun hd he => ?_, fun hd => ?_, fun hd j hj hpj => ?_⟩) hstep
  · subst g3
    rw [upd_ne D (fun e => hip e.symm)] at hd
    refine ⟨(hx.a hd).1, fun k hk => ?_⟩
    by_cases e : k = i
    · subst e
      unfold factQ
      rw [hG]
      exact trivial
    · rw [updV_ne vs v e]
      rw [upd_ne D e] at hk
      exact (hx.a hd).2 k hk
  · subst g3
    rw [upd_ne D (fun e => hip e.symm)] at hd
    refine hmd vs _ _ (fun j hj hpj => ?_) (hx.b hd hdm)
    rw [updV_ne]
    rintro rfl
    rcases hpj with h | h
    · rw [hpb] at h; cases h
    · exact hip h
  · rw [upd_ne D (by omega), hdm] at hd; cases hd
  · rw [upd_ne D (fun e => hip e.symm)] at hd
    by_cases e : j = i
    · rw [e, upd_self]
    · rw [upd_ne D e]; exact hx.e hd j hj hpj
/-- operation p -/
theorem XP.pivot (C : Value → Prop) (g : Value → World → Prop) (hG : L.lookup i = some (C, g)) (hip : i = p) (hpm : p < m) (hw : Region.wanted o (yielded ops a.tmps) = true) (hi : i + 1 = i')
    (hp : ∀ vs wx, Below w0.heap.size w0 wx → (∀ j v, preB ops i j = true → M.lookup j = some v → factQ L j v wx ∧ vs j = v) → o.wp P a wx (fun a' w' => ∃ v, a' = a.put o.dst v ∧ C v ∧ Mid (updV vs p v) w') (fun _ _ _ => False))
    (hc : ∀ v, C v → ∀ a', a.put o.dst v = a' → Chain P ops (clsQ L) (XP ops w0 p m L Mid Fin) Qn i' rest a' ((i, v) :: M)) : Chain P ops (clsQ L) (XP ops w0 p m L Mid Fin) Qn i (o :: rest) a M := by
  subst hip
  refine Chain.make C (by unfold clsQ; rw [hG]; rfl) hw hi (fun vs D wx hx hD hpre hv => ?_) hc
  have hdm := dm_no hx hpm hD
  refine Oper.wp_mono (fun a' w' ⟨v, g1, g2, g3⟩ => ⟨v, g1, g2, fun hd => ?_, fun _ _ => g3, fun hd => ?_, fun _ j _ hpj => ?_⟩) (hp vs wx (hx.a hD).1 fun j v hj hl => ⟨by
    have := (hx.a hD).2 j (hpre j hj)
    rwa [hv j v hj hl] at this, hv j v hj hl⟩)
  · rw [upd_self] at hd; cases hd
  · rw [upd_ne D (by omega), hdm] at hd; cases hd
  · by_cases e : j = i
    · rw [e, upd_self]
    · rw [upd_ne D e]; exact hpre j hpj
/-- the last one -/
theorem XP.last (C : Value → Prop) (g : Value → World → Prop) (hG : L.lookup i = some (C, g)) (him : i = m) (hpm : p < m) (hall : ((List.range m).all fun j => preB ops m j) = true) (hw : Region.wanted o (yielded ops a.tmps) = true) (hi : i + 1 = i')
    (hp : ∀ vs wx, Mid vs wx → (∀ j v, preB ops i j = true → M.lookup j = some v → vs j = v) → o.wp P a wx (fun a' w' => ∃ v, a' = a.put o.dst v ∧ C v ∧ Fin (updV vs m v) w') (fun _ _ _ => False))
    (hc : ∀ v, C v → ∀ a', a.put o.dst v = a' → Chain P ops (clsQ L) (XP ops w0 p m L Mid Fin) Qn i' rest a' ((i, v) :: M)) : Chain P ops (clsQ L) (XP ops w0 p m L Mid Fin) Qn i (o :: rest) a M := by
  subst him
  refine Chain.make C (by unfold clsQ; rw [hG]; rfl) hw hi (fun vs D wx hx hD hpre hv => ?_) hc
  have hdn : ∀ j, j < i → D j = true := fun j hj => by
    rw [List.all_eq_true] at hall
    exact hpre j (hall j (List.mem_range.2 hj))
  have hdp := hdn p hpm
  refine Oper.wp_mono (fun a' w' ⟨v, g1, g2, g3⟩ => ⟨v, g1, g2, fun hd => ?_, fun _ h => ?_, fun _ => ⟨g3, fun j hj => ?_⟩, fun _ j hj hpj => ?_⟩) (hp vs wx (hx.b hdp hD) hv)
  · rw [upd_ne D (by omega), hdp] at hd; cases hd
  · rw [upd_self] at h; cases h
  · rw [upd_ne D (by omega)]; exact hdn j hj
  · by_cases e : j = i
    · rw [e, upd_self]
    · rw [upd_ne D e]; exact hx.e hdp j hj hpj
theorem XP.end_ (hm : m < ops.size) (h : ∀ vs w, (∀ j v, M.lookup j = some v → vs j = v) → Fin vs w → Qn a w) : Chain P ops (clsQ L) (XP ops w0 p m L Mid Fin) Qn i [] a M :=
  Chain.end_ fun vs _ w hD hx hv => h vs w hv (hx.c (hD m hm)).1
end
end Go.Bar.Dv
