/-
 A region that draws its order, whose operations leave facts of their values until the last one, which may write. Over Lib10's rule. Plain lemmas over any program; no condition.
-/
import Derived.Test.YtgabmfibfikdbaaGreatDoorZLib10
import Derived.Test.YtgabmfibfikdbaaGreatDoorZLib22

namespace Go.Bar.Dv
open Go.RowKit Go.Bar Go.Bar.Dn

abbrev Kp := (Value -> Prop) × (Value -> World -> Prop) × Nat
def clsOf (L : List (Nat × Kp)) : Nat -> Option (Value -> Prop) := fun k => (L.lookup k).map (·.1)
def factOf (L : List (Nat × Kp)) (k : Nat) : Value -> World -> Prop := match L.lookup k with
 | some g => g.2.1
 | none => fun _ _ => True
def lifeOf (L : List (Nat × Kp)) (k : Nat) : Nat := match L.lookup k with
 | some g => g.2.2
 | none => 0
theorem lookup_mem {L : List (Nat × Kp)} {k : Nat} {g : Kp} (h : L.lookup k = some g) : ∃ x ∈ L, x.2 = g := by
 induction L with
 | nil => cases h
 | cons x L ih =>
  obtain ⟨k', g'⟩ := x
  rw [List.lookup_cons] at h
  split at h
  ·injection h with h; exact ⟨(k', g'), by simp, h⟩
  ·obtain ⟨y, hy, e⟩ := ih h
   exact ⟨y, by simp [hy], e⟩
theorem fact_st {L : List (Nat × Kp)} (h : ∀ x ∈ L, ∀ v w w', Below w.heap.size w w' -> x.2.2.1 v w -> x.2.2.1 v w') : ∀ k v w w', Below w.heap.size w w' -> factOf L k v w -> factOf L k v w' := by
 intro k v w w' hb hf
 unfold factOf at hf ⊢
 rcases hl : L.lookup k with _ | g
 ·trivial
 ·rw [hl] at hf
  obtain ⟨x, hx, rfl⟩ := lookup_mem hl
  exact h x hx v w w' hb hf
structure XT (ops : Array Oper) (w0 : World) (m : Nat) (L : List (Nat × Kp)) (Fin : (Nat -> Value) -> World -> Prop) (vs : Nat -> Value) (D : Nat -> Bool) (w : World) : Prop where
 bel : Below w0.heap.size w0 w \/ D m = true
 cl : ∀ k j, (L.lookup k).isSome = true -> (L.lookup j).isSome = true -> D k = true -> preB ops k j = true -> D j = true
 facts : D m = false -> ∀ k, D k = true -> D (lifeOf L k) = false -> factOf L k (vs k) w
 fin : D m = true -> Fin vs w /\ ∀ j, j < m -> D j = true
section
variable {P : Program} {ops : Array Oper} {w0 : World} {m : Nat} {L : List (Nat × Kp)} {Fin : (Nat -> Value) -> World -> Prop} {Qn : Act -> World -> Prop} {n : Nat} {a0 : Act}
theorem fact_none {k : Nat} (h : clsOf L k = none) (v : Value) (w : World) : factOf L k v w := by
 unfold clsOf at h
 unfold factOf
 rcases hl : L.lookup k with _ | g
 ·exact trivial
 ·rw [hl] at h; cases h
theorem wp_region_two {id : Nat} {Q : Exit -> Act -> World -> Prop} (hm : P.follows .mixedOrders = true) (n : Nat) (hf : regionFits ops n = true) (hn : a0.tmps.size = n) (hl : (L.lookup m).isSome = true)
  (hne : ∀ x ∈ L, ∃ v, x.2.1 v) (hfc : ∀ vs vs' w, (∀ j, (L.lookup j).isSome = true -> j <= m -> vs j = vs' j) -> Fin vs w -> Fin vs' w)
  (hc : Chain P ops (clsOf L) (XT ops w0 m L Fin) (Q .normal) 0 ops.toList a0 []) : (Code.region id ops true).wp P Q a0 w0 := by
 refine wp_region_chain (clsOf L) (XT ops w0 m L Fin) hm n hf hn ?_ ?_ ?_ ⟨.inl (Below.refl _ _).drew, fun _ _ _ _ h => (by cases h), fun _ k h => (by cases h), fun h => (by cases h)⟩ hc
 ·intro k g hk
  unfold clsOf at hk
  rcases hl : L.lookup k with _ | g'
  ·rw [hl] at hk; cases hk
  ·rw [hl] at hk
   injection hk with hk
   subst hk
   obtain ⟨x, hx, rfl⟩ := lookup_mem hl
   exact hne x hx
 ·intro vs vs' D w he hx
  refine ⟨hx.bel, hx.cl, fun hd k hk hl => by rw [<- he k hk]; exact hx.facts hd k hk hl, fun hd => ⟨hfc vs vs' w (fun j _ hj => ?_) (hx.fin hd).1, (hx.fin hd).2⟩⟩
  rcases Nat.lt_or_ge j m with h | h
  ·exact he j ((hx.fin hd).2 j h)
  ·obtain rfl : j = m := by omega
   exact he j hd
 ·intro i vs D w v hi hx
  have him : i ≠ m := fun e => by
   subst e
   unfold clsOf at hi
   rcases hh : L.lookup i with _ | g
   ·rw [hh] at hl; cases hl
   ·rw [hh] at hi; cases hi
  have hnt : ∀ j, (L.lookup j).isSome = true -> j ≠ i := fun j hj e => by
   subst e
   unfold clsOf at hi
   rcases hh : L.lookup j with _ | g
   ·rw [hh] at hj; cases hj
   ·rw [hh] at hi; cases hi
  refine ⟨hx.bel.imp (fun h => h) fun h => by rw [upd_ne D (fun e => him e.symm)]; exact h, fun k j hk hj hd hp => ?_, fun hd k hk hlf => ?_, fun hd => ?_⟩
  ·rw [upd_ne D (hnt k hk)] at hd
   rw [upd_ne D (hnt j hj)]
   exact hx.cl k j hk hj hd hp
  ·rw [upd_ne D (fun e => him e.symm)] at hd
   by_cases e : k = i
   ·subst e; exact fact_none hi _ _
   ·rw [updV_ne vs v e]
    rw [upd_ne D e] at hk
    rcases hh : L.lookup k with _ | g
    ·exact fact_none (by unfold clsOf; rw [hh]; rfl) _ _
    ·refine hx.facts hd k hk ?_
     by_cases e2 : lifeOf L k = i
     ·rw [e2, upd_self] at hlf; cases hlf
     ·rwa [upd_ne D e2] at hlf
  ·rw [upd_ne D (fun e => him e.symm)] at hd
   refine ⟨hfc vs _ w (fun j hj _ => ?_) (hx.fin hd).1, fun j hj => ?_⟩
   ·rw [updV_ne vs v (hnt j hj)]
   ·by_cases e : j = i
    ·rw [e, upd_self]
    ·rw [upd_ne D e]; exact (hx.fin hd).2 j hj
variable {M : List (Nat × Value)} {i i' : Nat} {o : Oper} {rest : List Oper} {a a' : Act}
theorem Chain.skip' (hG : clsOf L i = none) (hw : Region.wanted o (yielded ops a.tmps) = false) (hi : i + 1 = i') (ha : a.put o.dst undef = a')
  (hc : Chain P ops (clsOf L) (XT ops w0 m L Fin) Qn i' rest a' M) : Chain P ops (clsOf L) (XT ops w0 m L Fin) Qn i (o :: rest) a M := by
 subst ha; subst hi
 unfold Chain
 rw [hG]
 exact ⟨undef, .inr ⟨hw, rfl⟩, hc⟩
theorem XT.any (C : Value -> Prop) (g : Value -> World -> Prop) (lf : Nat) (hG : L.lookup i = some (C, g, lf)) (him : i < m) (hw : Region.wanted o (yielded ops a.tmps) = true) (hi : i + 1 = i')
  (hp : ∀ (vs : Nat -> Value) (D : Nat -> Bool) (wx : World), Below w0.heap.size w0 wx -> D i = false -> (∀ j, preB ops i j = true -> D j = true) -> (∀ k j, (L.lookup k).isSome = true -> (L.lookup j).isSome = true -> D k = true -> preB ops k j = true -> D j = true) -> (∀ k, D k = true -> D (lifeOf L k) = false -> factOf L k (vs k) wx) -> (∀ j v, preB ops i j = true -> M.lookup j = some v -> D (lifeOf L j) = false -> factOf L j v wx) ->
   o.wp P a wx (fun a' w' => ∃ v, a' = a.put o.dst v /\ C v /\ Below w0.heap.size w0 w' /\ g v w' /\ ∀ k, k ≠ i -> D k = true -> D (lifeOf L k) = false -> lifeOf L k ≠ i -> factOf L k (vs k) w') (fun _ _ _ => False))
  (hc : ∀ v, C v -> ∀ a', a.put o.dst v = a' -> Chain P ops (clsOf L) (XT ops w0 m L Fin) Qn i' rest a' ((i, v) :: M)) : Chain P ops (clsOf L) (XT ops w0 m L Fin) Qn i (o :: rest) a M := by
 refine Chain.make C (by unfold clsOf; rw [hG]; rfl) hw hi (fun vs D wx hx hD hpre hv => ?_) hc
 have hdm : D m = false := by
  rcases h : D m with _ | _
  ·rfl
  ·have := (hx.fin h).2 i him
   rw [hD] at this; cases this
 have hbl : Below w0.heap.size w0 wx := by
  rcases hx.bel with h | h
  ·exact h
  ·rw [hdm] at h; cases h
 refine Oper.wp_mono (fun a' w' ⟨v, h1, h2, h3, h4, h5⟩ => ⟨v, h1, h2, .inl h3, fun k j hk hj hd hpj => ?_, fun _ k hk hlf => ?_, fun h => ?_⟩) (hp vs D wx hbl hD hpre hx.cl (hx.facts hdm) fun j v hj hl hlf => by
  have := hx.facts hdm j (hpre j hj) hlf
  rwa [hv j v hj hl] at this)
 ·by_cases e : j = i
  ·rw [e, upd_self]
  ·rw [upd_ne D e]
   by_cases e2 : k = i
   ·subst e2; exact hpre j hpj
   ·rw [upd_ne D e2] at hd
    exact hx.cl k j hk hj hd hpj
 ·by_cases e : k = i
  ·subst e
   rw [updV_self]
   unfold factOf
   rw [hG]
   exact h4
  ·rw [updV_ne vs v e]
   rw [upd_ne D e] at hk
   rcases hh : L.lookup k with _ | g
   ·exact fact_none (by unfold clsOf; rw [hh]; rfl) _ _
   ·by_cases e2 : lifeOf L k = i
    ·rw [e2, upd_self] at hlf; cases hlf
    ·rw [upd_ne D e2] at hlf
     exact h5 k e hk hlf e2
 ·rw [upd_ne D (by omega)] at h
  rw [hdm] at h; cases h
theorem XT.make (C : Value -> Prop) (g : Value -> World -> Prop) (lf : Nat) (hG : L.lookup i = some (C, g, lf)) (him : i < m) (hst : ∀ k v w w', Below w.heap.size w w' -> factOf L k v w -> factOf L k v w') (hw : Region.wanted o (yielded ops a.tmps) = true) (hi : i + 1 = i')
  (hp : ∀ wx, Below w0.heap.size w0 wx -> (∀ j v, preB ops i j = true -> M.lookup j = some v -> (lifeOf L j == i || preB ops (lifeOf L j) i) = true -> factOf L j v wx) -> o.wp P a wx (fun a' w' => ∃ v, a' = a.put o.dst v /\ C v /\ Below wx.heap.size wx w' /\ g v w') (fun _ _ _ => False))
  (htr : ∀ x ∈ L, (L.lookup x.2.2.2).isSome = true)
  (hc : ∀ v, C v -> ∀ a', a.put o.dst v = a' -> Chain P ops (clsOf L) (XT ops w0 m L Fin) Qn i' rest a' ((i, v) :: M)) : Chain P ops (clsOf L) (XT ops w0 m L Fin) Qn i (o :: rest) a M := by
 refine XT.any C g lf hG him hw hi (fun vs D wx hx hD hpre hcl hfs hF => ?_) hc
 refine Oper.wp_mono (fun a' w' ⟨v, h1, h2, h3, h4⟩ => ⟨v, h1, h2, below_trans hx h3, h4, fun k _ hk hlf _ => hst k _ _ _ h3 (hfs k hk hlf)⟩) (hp wx hx fun j v hj hl hlf => ?_)
 rcases hh : L.lookup j with _ | gj
 ·exact fact_none (by unfold clsOf; rw [hh]; rfl) _ _
 ·refine hF j v hj hl ?_
  have hll : (L.lookup (lifeOf L j)).isSome = true := by
   obtain ⟨x, hx, e⟩ := lookup_mem hh
   have := htr x hx
   unfold lifeOf
   rw [hh]
   rw [e] at this
   exact this
  rw [Bool.or_eq_true, beq_iff_eq] at hlf
  rcases hlf with hlf | hlf
  ·rw [hlf]; exact hD
  ·rcases hdl : D (lifeOf L j) with _ | _
   ·rfl
   ·have := hcl (lifeOf L j) i hll (by rw [hG]; rfl) hdl hlf
    rw [hD] at this; cases this
theorem XT.call (c : Value) (lf : Nat) (hG : L.lookup i = some ((fun v => v = c), noFact, lf)) (him : i < m) (hst : ∀ k v w w', Below w.heap.size w w' -> factOf L k v w -> factOf L k v w') (hw : Region.wanted o (yielded ops a.tmps) = true) (hi : i + 1 = i')
  (hp : ∀ wx, Below w0.heap.size w0 wx -> (∀ j v, preB ops i j = true -> M.lookup j = some v -> (lifeOf L j == i || preB ops (lifeOf L j) i) = true -> factOf L j v wx) -> o.wp P a wx (fun a' w' => a' = a.put o.dst c /\ Below wx.heap.size wx w') (fun _ _ _ => False))
  (htr : ∀ x ∈ L, (L.lookup x.2.2.2).isSome = true)
  (ha : a.put o.dst c = a') (hc : Chain P ops (clsOf L) (XT ops w0 m L Fin) Qn i' rest a' ((i, c) :: M)) : Chain P ops (clsOf L) (XT ops w0 m L Fin) Qn i (o :: rest) a M := by
 subst ha
 refine XT.make (fun v => v = c) noFact lf hG him hst hw hi (fun wx hx hF => Oper.wp_mono (fun _ w' ⟨h1, h2⟩ => ⟨c, h1, rfl, h2, trivial⟩) (hp wx hx hF)) htr ?_
 rintro v rfl a' rfl
 exact hc
theorem XT.last (C : Value -> Prop) (g : Value -> World -> Prop) (lf : Nat) (hG : L.lookup i = some (C, g, lf)) (him : i = m) (hall : ((List.range m).all fun j => preB ops m j) = true) (hw : Region.wanted o (yielded ops a.tmps) = true) (hi : i + 1 = i')
  (hp : ∀ vs wx, Below w0.heap.size w0 wx -> (∀ j v, preB ops i j = true -> M.lookup j = some v -> ((lifeOf L j == i) = true -> factOf L j v wx) /\ vs j = v) -> o.wp P a wx (fun a' w' => ∃ v, a' = a.put o.dst v /\ C v /\ Fin (updV vs m v) w') (fun _ _ _ => False))
  (hc : ∀ v, C v -> ∀ a', a.put o.dst v = a' -> Chain P ops (clsOf L) (XT ops w0 m L Fin) Qn i' rest a' ((i, v) :: M)) : Chain P ops (clsOf L) (XT ops w0 m L Fin) Qn i (o :: rest) a M := by
 subst him
 refine Chain.make C (by unfold clsOf; rw [hG]; rfl) hw hi (fun vs D wx hx hD hpre hv => ?_) hc
 have hbl : Below w0.heap.size w0 wx := by
  rcases hx.bel with h | h
  ·exact h
  ·rw [hD] at h; cases h
 have hdn : ∀ j, j < i -> D j = true := fun j hj => by
  rw [List.all_eq_true] at hall
  exact hpre j (hall j (List.mem_range.2 hj))
 refine Oper.wp_mono (fun a' w' ⟨v, h1, h2, h4⟩ => ⟨v, h1, h2, .inr (upd_self D i), fun k j hk hj hd hpj => ?_, fun h => (by rw [upd_self] at h; cases h), fun _ => ⟨h4, fun j hj => ?_⟩⟩) (hp vs wx hbl fun j v hj hl => ⟨fun hlf => by
  have := hx.facts hD j (hpre j hj) (by rw [beq_iff_eq.1 hlf]; exact hD)
  rwa [hv j v hj hl] at this, hv j v hj hl⟩)
 ·by_cases e : j = i
  ·rw [e, upd_self]
  ·rw [upd_ne D e]
   by_cases e2 : k = i
   ·subst e2; exact hpre j hpj
   ·rw [upd_ne D e2] at hd
    exact hx.cl k j hk hj hd hpj
 ·rw [upd_ne D (by omega)]
  exact hdn j hj
theorem XT.end_ (hm : m < ops.size) (h : ∀ vs w, (∀ j v, M.lookup j = some v -> vs j = v) -> Fin vs w -> Qn a w) : Chain P ops (clsOf L) (XT ops w0 m L Fin) Qn i [] a M :=
 Chain.end_ fun vs _ w hD hx hv => h vs w hv (hx.fin (hD m hm)).1
end
end Go.Bar.Dv
