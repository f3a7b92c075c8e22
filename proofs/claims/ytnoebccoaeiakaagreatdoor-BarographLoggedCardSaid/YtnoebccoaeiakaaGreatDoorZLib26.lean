/-
  Library 26: a region that draws its order and writes twice: at operation p, behind which some reads may still come, and at its last operation m.
-/
import Derived.Test.YtnoebccoaeiakaaGreatDoorZLib24

namespace Go.Bar.Dv
open Go.RowKit Go.Bar Go.Bar.Dn

abbrev Kq : Type := (Value → Prop) × (Value → World → Prop)
def clsQ (L : List (Nat × Kq)) : Nat → Option (Value → Prop) := fun k => (L.lookup k).map (·.1)
def factQ (L : List (Nat × Kq)) (k : Nat) : Value → World → Prop := match L.lookup k with
  | some g => g.2
  | none => fun _ _ => True
theorem lookupQ_mem {L : List (Nat × Kq)} {k : Nat} {g : Kq} (h : L.lookup k = some g) : ∃ x ∈ L, x.2 = g := by
  induction L with
  | nil => cases h
  | cons x L ih =>
    obtain ⟨k', g'⟩ := x
    rw [List.lookup_cons] at h
    split at h
    · injection h with h
      exact ⟨_, List.mem_cons_self .., h⟩
    · obtain ⟨x, hx, e⟩ := ih h
      exact ⟨x, List.mem_cons_of_mem _ hx, e⟩
theorem factQ_none {L : List (Nat × Kq)} {k : Nat} (h : clsQ L k = none) (v : Value) (w : World) : factQ L k v w := by
  unfold clsQ at h
  unfold factQ
  rcases hl : L.lookup k with _ | g
  · exact trivial
  · rw [hl] at h; cases h
theorem factQ_st {L : List (Nat × Kq)} (h : ∀ x ∈ L, ∀ v w w', Below w.heap.size w w' → x.2.2 v w → x.2.2 v w') : ∀ k v w w', Below w.heap.size w w' → factQ L k v w → factQ L k v w' := by
  intro k v w w' hb hf
  unfold factQ at hf ⊢
  rcases hl : L.lookup k with _ | g
  · exact trivial
  · rw [hl] at hf
    obtain ⟨x, hx, rfl⟩ := lookupQ_mem hl
    exact h x hx v w w' hb hf
structure XP (ops : Array Oper) (w0 : World) (p m : Nat) (L : List (Nat × Kq)) (Mid Fin : (Nat → Value) → World → Prop) (vs : Nat → Value) (D : Nat → Bool) (w : World) : Prop where
  a : D p = false → Below w0.heap.size w0 w ∧ ∀ k, D k = true → factQ L k (vs k) w
  b : D p = true → D m = false → Mid vs w
  c : D m = true → Fin vs w ∧ ∀ j, j < m → D j = true
  e : D p = true → ∀ j, (L.lookup j).isSome = true → preB ops p j = true → D j = true
section
variable {P : Program} {ops : Array Oper} {w0 : World} {p m : Nat} {L : List (Nat × Kq)} {Mid Fin : (Nat → Value) → World → Prop} {Qn : Act → World → Prop} {n : Nat} {a0 : Act}
theorem clsQ_not {i : Nat} (hi : clsQ L i = none) : ∀ j, (L.lookup j).isSome = true → j ≠ i := fun j hj e => by
  subst e
  unfold clsQ at hi
  rcases hh : L.lookup j with _ | g
  · rw [hh] at hj; cases hj
  · rw [hh] at hi; cases hi
theorem wp_region_piv {id : Nat} {Q : Exit → Act → World → Prop} (hm : P.follows .mixedOrders = true) (n : Nat) (hf : regionFits ops n = true) (hn : a0.tmps.size = n) (hp : (L.lookup p).isSome = true) (hl : (L.lookup m).isSome = true)
    (hne : ∀ x ∈ L, ∃ v, x.2.1 v) (hmd : ∀ vs vs' w, (∀ j, (L.lookup j).isSome = true → (preB ops p j = true ∨ j = p) → vs j = vs' j) → Mid vs w → Mid vs' w) (hfc : ∀ vs vs' w, (∀ j, (L.lookup j).isSome = true → j ≤ m → vs j = vs' j) → Fin vs w → Fin vs' w)
    (hc : Chain P ops (clsQ L) (XP ops w0 p m L Mid Fin) (Q .normal) 0 ops.toList a0 []) : (Code.region id ops true).wp P Q a0 w0 := by
  refine wp_region_chain (clsQ L) (XP ops w0 p m L Mid Fin) hm n hf hn ?_ ?_ ?_ ⟨fun _ => ⟨(Below.refl _ _).drew, fun k h => (by cases h)⟩, fun h => (by cases h), fun h => (by cases h), fun h => (by cases h)⟩ hc
  · intro k g hk
    unfold clsQ at hk
    rcases hl : L.lookup k with _ | g'
    · rw [hl] at hk; cases hk
    · rw [hl] at hk
      injection hk with hk
      subst hk
      obtain ⟨x, hx, rfl⟩ := lookupQ_mem hl
      exact hne x hx
  · intro vs vs' D w he hx
    refine ⟨fun hd => ⟨(hx.a hd).1, fun k hk => by rw [← he k hk]; exact (hx.a hd).2 k hk⟩, fun h1 h2 => hmd vs vs' w (fun j hj hpj => ?_) (hx.b h1 h2), fun hd => ⟨hfc vs vs' w (fun j _ hj => ?_) (hx.c hd).1, (hx.c hd).2⟩, hx.e⟩
    · rcases hpj with h | rfl
      · exact he j (hx.e h1 j hj h)
      · exact he _ h1
    · rcases Nat.lt_or_ge j m with h | h
      · exact he j ((hx.c hd).2 j h)
      · obtain rfl : j = m := by omega
        exact he j hd
  · intro i vs D w v hi hx
    have hnt := clsQ_not hi
    have hip := hnt p hp
    have him := hnt m hl
    refine ⟨fun hd => ?_, fun h1 h2 => ?_, fun hd => ?_, fun h1 j hj hpj => ?_⟩
    · rw [upd_ne D hip] at hd
      refine ⟨(hx.a hd).1, fun k hk => ?_⟩
      by_cases e : k = i
      · subst e; exact factQ_none hi _ _
      · rw [updV_ne vs v e]
        rw [upd_ne D e] at hk
        exact (hx.a hd).2 k hk
    · rw [upd_ne D hip] at h1
      rw [upd_ne D him] at h2
      exact hmd vs _ w (fun j hj _ => by rw [updV_ne vs v (hnt j hj)]) (hx.b h1 h2)
    · rw [upd_ne D him] at hd
      refine ⟨hfc vs _ w (fun j hj _ => by rw [updV_ne vs v (hnt j hj)]) (hx.c hd).1, fun j hj => ?_⟩
      by_cases e : j = i
      · rw [e, upd_self]
      · rw [upd_ne D e]; exact (hx.c hd).2 j hj
    · rw [upd_ne D hip] at h1
      rw [upd_ne D (hnt j hj)]
      exact hx.e h1 j hj hpj
variable {M : List (Nat × Value)} {i i' : Nat} {o : Oper} {rest : List Oper} {a a' : Act}
theorem XP.skip (hG : clsQ L i = none) (hw : Region.wanted o (yielded ops a.tmps) = false) (hi : i + 1 = i') (ha : a.put o.dst undef = a')
    (hc : Chain P ops (clsQ L) (XP ops w0 p m L Mid Fin) Qn i' rest a' M) : Chain P ops (clsQ L) (XP ops w0 p m L Mid Fin) Qn i (o :: rest) a M := by
  subst ha; subst hi
  unfold Chain
  rw [hG]
  exact ⟨undef, .inr ⟨hw, rfl⟩, hc⟩
theorem dm_no {vs : Nat → Value} {D : Nat → Bool} {w : World} (hx : XP ops w0 p m L Mid Fin vs D w) (him : i < m) (hD : D i = false) : D m = false := by
  rcases h : D m with _ | _
  · rfl
  · have := (hx.c h).2 i him
    rw [hD] at this; cases this
theorem XP.make (C : Value → Prop) (g : Value → World → Prop) (hG : L.lookup i = some (C, g)) (hip : i < p) (hpm : p < m) (hpb : preB ops p i = true) (hst : ∀ k v w w', Below w.heap.size w w' → factQ L k v w → factQ L k v w') (hw : Region.wanted o (yielded ops a.tmps) = true) (hi : i + 1 = i')
    (hp : ∀ wx, Below w0.heap.size w0 wx → (∀ j v, preB ops i j = true → M.lookup j = some v → factQ L j v wx) → o.wp P a wx (fun a' w' => ∃ v, a' = a.put o.dst v ∧ C v ∧ Below wx.heap.size wx w' ∧ g v w') (fun _ _ _ => False))
    (hc : ∀ v, C v → ∀ a', a.put o.dst v = a' → Chain P ops (clsQ L) (XP ops w0 p m L Mid Fin) Qn i' rest a' ((i, v) :: M)) : Chain P ops (clsQ L) (XP ops w0 p m L Mid Fin) Qn i (o :: rest) a M := by
  refine Chain.make C (by unfold clsQ; rw [hG]; rfl) hw hi (fun vs D wx hx hD hpre hv => ?_) hc
  have hdp : D p = false := by
    rcases h : D p with _ | _
    · rfl
    · have := hx.e h i (by rw [hG]; rfl) hpb
      rw [hD] at this; cases this
  obtain ⟨hb, hf⟩ := hx.a hdp
  refine Oper.wp_mono (fun a' w' ⟨v, h1, h2, h3, h4⟩ => ⟨v, h1, h2, fun _ => ⟨below_trans hb h3, fun k hk => ?_⟩, fun h => ?_, fun h => ?_, fun h => ?_⟩) (hp wx hb fun j v hj hl => by
    have := hf j (hpre j hj)
    rwa [hv j v hj hl] at this)
  · by_cases e : k = i
    · subst e
      rw [updV_self]
      unfold factQ
      rw [hG]
      exact h4
    · rw [updV_ne vs v e]
      rw [upd_ne D e] at hk
      exact hst k _ _ _ h3 (hf k hk)
  · rw [upd_ne D (by omega), hdp] at h; cases h
  · rw [upd_ne D (by omega), dm_no hx (by omega) hD] at h; cases h
  · rw [upd_ne D (by omega), hdp] at h; cases h
theorem XP.late (C : Value → Prop) (hG : L.lookup i = some (C, noFact)) (hip : i ≠ p) (him : i < m) (hpb : preB ops p i = false) (hmd : ∀ vs vs' w, (∀ j, (L.lookup j).isSome = true → (preB ops p j = true ∨ j = p) → vs j = vs' j) → Mid vs w → Mid vs' w) (hw : Region.wanted o (yielded ops a.tmps) = true) (hi : i + 1 = i')
    (h1 : ∀ wx, Below w0.heap.size w0 wx → (∀ j v, preB ops i j = true → M.lookup j = some v → factQ L j v wx) → o.wp P a wx (fun a' w' => ∃ v, a' = a.put o.dst v ∧ C v ∧ w' = wx) (fun _ _ _ => False))
    (h2 : ∀ vs wx, Mid vs wx → (∀ j v, preB ops i j = true → M.lookup j = some v → vs j = v) → o.wp P a wx (fun a' w' => ∃ v, a' = a.put o.dst v ∧ C v ∧ w' = wx) (fun _ _ _ => False))
    (hc : ∀ v, C v → ∀ a', a.put o.dst v = a' → Chain P ops (clsQ L) (XP ops w0 p m L Mid Fin) Qn i' rest a' ((i, v) :: M)) : Chain P ops (clsQ L) (XP ops w0 p m L Mid Fin) Qn i (o :: rest) a M := by
  refine Chain.make C (by unfold clsQ; rw [hG]; rfl) hw hi (fun vs D wx hx hD hpre hv => ?_) hc
  have hdm := dm_no hx him hD
  have hstep : o.wp P a wx (fun a' w' => ∃ v, a' = a.put o.dst v ∧ C v ∧ w' = wx) (fun _ _ _ => False) := by
    rcases h : D p with _ | _
    · exact h1 wx (hx.a h).1 fun j v hj hl => by
        have := (hx.a h).2 j (hpre j hj)
        rwa [hv j v hj hl] at this
    · exact h2 vs wx (hx.b h hdm) hv
  refine Oper.wp_mono (fun a' w' ⟨v, g1, g2, g3⟩ => ⟨v, g1, g2, fun hd => ?_, fun hd he => ?_, fun hd => ?_, fun hd j hj hpj => ?_⟩) hstep
  · subst g3
    rw [upd_ne D (fun e => hip e.symm)] at hd
    refine ⟨(hx.a hd).1, fun k hk => ?_⟩
    by_cases e : k = i
    · subst e
      unfold factQ
      rw [hG]
      exact trivial
    · rw [updV_ne vs v e]
      rw [upd_ne D e] at hk
      exact (hx.a hd).2 k hk
  · subst g3
    rw [upd_ne D (fun e => hip e.symm)] at hd
    refine hmd vs _ _ (fun j hj hpj => ?_) (hx.b hd hdm)
    rw [updV_ne]
    rintro rfl
    rcases hpj with h | h
    · rw [hpb] at h; cases h
    · exact hip h
  · rw [upd_ne D (by omega), hdm] at hd; cases hd
  · rw [upd_ne D (fun e => hip e.symm)] at hd
    by_cases e : j = i
    · rw [e, upd_self]
    · rw [upd_ne D e]; exact hx.e hd j hj hpj
theorem XP.pivot (C : Value → Prop) (g : Value → World → Prop) (hG : L.lookup i = some (C, g)) (hip : i = p) (hpm : p < m) (hw : Region.wanted o (yielded ops a.tmps) = true) (hi : i + 1 = i')
    (hp : ∀ vs wx, Below w0.heap.size w0 wx → (∀ j v, preB ops i j = true → M.lookup j = some v → factQ L j v wx ∧ vs j = v) → o.wp P a wx (fun a' w' => ∃ v, a' = a.put o.dst v ∧ C v ∧ Mid (updV vs p v) w') (fun _ _ _ => False))
    (hc : ∀ v, C v → ∀ a', a.put o.dst v = a' → Chain P ops (clsQ L) (XP ops w0 p m L Mid Fin) Qn i' rest a' ((i, v) :: M)) : Chain P ops (clsQ L) (XP ops w0 p m L Mid Fin) Qn i (o :: rest) a M := by
  subst hip
  refine Chain.make C (by unfold clsQ; rw [hG]; rfl) hw hi (fun vs D wx hx hD hpre hv => ?_) hc
  have hdm := dm_no hx hpm hD
  refine Oper.wp_mono (fun a' w' ⟨v, g1, g2, g3⟩ => ⟨v, g1, g2, fun hd => ?_, fun _ _ => g3, fun hd => ?_, fun _ j _ hpj => ?_⟩) (hp vs wx (hx.a hD).1 fun j v hj hl => ⟨by
    have := (hx.a hD).2 j (hpre j hj)
    rwa [hv j v hj hl] at this, hv j v hj hl⟩)
  · rw [upd_self] at hd; cases hd
  · rw [upd_ne D (by omega), hdm] at hd; cases hd
  · by_cases e : j = i
    · rw [e, upd_self]
    · rw [upd_ne D e]; exact hpre j hpj
theorem XP.last (C : Value → Prop) (g : Value → World → Prop) (hG : L.lookup i = some (C, g)) (him : i = m) (hpm : p < m) (hall : ((List.range m).all fun j => preB ops m j) = true) (hw : Region.wanted o (yielded ops a.tmps) = true) (hi : i + 1 = i')
    (hp : ∀ vs wx, Mid vs wx → (∀ j v, preB ops i j = true → M.lookup j = some v → vs j = v) → o.wp P a wx (fun a' w' => ∃ v, a' = a.put o.dst v ∧ C v ∧ Fin (updV vs m v) w') (fun _ _ _ => False))
    (hc : ∀ v, C v → ∀ a', a.put o.dst v = a' → Chain P ops (clsQ L) (XP ops w0 p m L Mid Fin) Qn i' rest a' ((i, v) :: M)) : Chain P ops (clsQ L) (XP ops w0 p m L Mid Fin) Qn i (o :: rest) a M := by
  subst him
  refine Chain.make C (by unfold clsQ; rw [hG]; rfl) hw hi (fun vs D wx hx hD hpre hv => ?_) hc
  have hdn : ∀ j, j < i → D j = true := fun j hj => by
    rw [List.all_eq_true] at hall
    exact hpre j (hall j (List.mem_range.2 hj))
  have hdp := hdn p hpm
  refine Oper.wp_mono (fun a' w' ⟨v, g1, g2, g3⟩ => ⟨v, g1, g2, fun hd => ?_, fun _ h => ?_, fun _ => ⟨g3, fun j hj => ?_⟩, fun _ j hj hpj => ?_⟩) (hp vs wx (hx.b hdp hD) hv)
  · rw [upd_ne D (by omega), hdp] at hd; cases hd
  · rw [upd_self] at h; cases h
  · rw [upd_ne D (by omega)]; exact hdn j hj
  · by_cases e : j = i
    · rw [e, upd_self]
    · rw [upd_ne D e]; exact hx.e hdp j hj hpj
theorem XP.end_ (hm : m < ops.size) (h : ∀ vs w, (∀ j v, M.lookup j = some v → vs j = v) → Fin vs w → Qn a w) : Chain P ops (clsQ L) (XP ops w0 p m L Mid Fin) Qn i [] a M :=
  Chain.end_ fun vs _ w hD hx hv => h vs w hv (hx.c (hD m hm)).1
end
end Go.Bar.Dv
