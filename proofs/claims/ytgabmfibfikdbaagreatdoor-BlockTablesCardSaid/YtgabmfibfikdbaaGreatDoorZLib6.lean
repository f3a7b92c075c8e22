/-
 A region that draws its order and whose calls turn the world: walked once in the order of the text; X D w tells how the world stands
 when the operations of D have been carried out. Printed by wip/mklib6.py from XLib5.lean.tpl. Plain lemmas over any program; no condition.
-/
import Derived.Test.YtgabmfibfikdbaaGreatDoorZLib5

namespace Go.Bar.Dn
open Go.RowKit Go.Bar

def upd (D : Nat → Bool) (i : Nat) : Nat → Bool := fun k => if k = i then true else D k
theorem upd_self (D : Nat → Bool) (i : Nat) : upd D i i = true := if_pos rfl
theorem upd_ne (D : Nat → Bool) {i k : Nat} (h : k ≠ i) : upd D i k = D k := if_neg h

def Chain (P : Program) (ops : Array Oper) (G : Nat → Option ((Value → Prop) × (Value → World → Prop))) (R : World → World → Prop) (X : (Nat → Bool) → World → Prop) (Qn : Act → World → Prop) : Nat → List Oper → Act → (Nat → World → Prop) → Prop
 | _, [], a, F => ∀ D w, (∀ k, k < ops.size → D k = true) → X D w → (∀ j, F j w) → Qn a w
 | i, o :: rest, a, F =>
  match G i with
  | none => ∃ v, Yields P ops o v a ∧ Chain P ops G R X Qn (i + 1) rest (a.put o.dst v) F
  | some g => Region.wanted o (yielded ops a.tmps) = true ∧
   (∀ D w, X D w → D i = false → (∀ j, preB ops i j = true → D j = true ∧ F j w) → o.wp P a w (fun a' w' => ∃ v, a' = a.put o.dst v ∧ R w w' ∧ X (upd D i) w' ∧ g.1 v ∧ g.2 v w') (fun _ _ _ => False)) ∧
   ∀ v, g.1 v → Chain P ops G R X Qn (i + 1) rest (a.put o.dst v) (fun j w => if j = i then g.2 v w else F j w)

structure RInv (P : Program) (ops : Array Oper) (G : Nat → Option ((Value → Prop) × (Value → World → Prop))) (X : (Nat → Bool) → World → Prop) (a0 : Act) (listed : Array Bool) (a : Act) (w : World) (vs : Nat → Value) : Prop where
 x : X (fun k => listed.getD k false) w
 size : a.tmps.size = a0.tmps.size
 defers : a.defers = a0.defers
 slot : ∀ t, a.tmps.getD t undef = slotAt ops a0 vs (fun k => listed.getD k false) t ops.size
 closed : ∀ i j, listed.getD i false = true → preB ops i j = true → listed.getD j false = true
 pure_ : ∀ k o, ops[k]? = some o → listed.getD k false = true → G k = none → Yields P ops o (vs k) (fr ops a0 vs k)
 fact : ∀ k g, k < ops.size → listed.getD k false = true → G k = some g → g.1 (vs k) ∧ g.2 (vs k) w

section
variable {P : Program} {ops : Array Oper} {G : Nat → Option ((Value → Prop) × (Value → World → Prop))} {R : World → World → Prop} {X : (Nat → Bool) → World → Prop} {Qn : Act → World → Prop} {n : Nat} {a0 : Act}

theorem descend (hne : ∀ k g, G k = some g → ∃ v, g.1 v) (hf : regionFits ops n = true) (hn : a0.tmps.size = n) (hc : Chain P ops G R X Qn 0 ops.toList a0 (fun _ _ => True)) {listed : Array Bool} {a : Act} {w : World} {vs : Nat → Value} (hI : RInv P ops G X a0 listed a w vs) :
  ∀ i, i ≤ ops.size → ∃ vs' F, (∀ k, listed.getD k false = true → vs' k = vs k) ∧ Chain P ops G R X Qn i (ops.toList.drop i) (fr ops a0 vs' i) F ∧ (∀ j w', (j < i → ∀ g, G j = some g → g.2 (vs' j) w') → F j w')
 | 0, _ => ⟨vs, fun _ _ => True, fun _ _ => rfl, hc, fun _ _ _ => trivial⟩
 | i + 1, h => by
  obtain ⟨vs', F, h1, h2, h3⟩ := descend hne hf hn hc hI i (by omega)
  have hil : i < ops.toList.length := by simp; omega
  rw [List.drop_eq_getElem_cons hil] at h2
  obtain ⟨o, ho⟩ : ∃ o, ops[i]? = some o := ⟨_, Array.getElem?_eq_getElem (by omega)⟩
  have hoe : ops.toList[i] = o := by
   have := ho
   rw [Array.getElem?_eq_getElem (by omega)] at this
   simpa using this
  rw [hoe] at h2
  unfold Chain at h2
  cases hg : G i with
  | none =>
   rw [hg] at h2
   obtain ⟨v, hy, h4⟩ := h2
   refine ⟨fun k => if k = i then v else vs' k, F, fun k hk => ?_, ?_, fun j w' hj => ?_⟩
   ·by_cases hki : k = i
    ·subst hki
     simp only [if_true]
     have hy2 := hI.pure_ k o ho hk hg
     refine Yields.unique w hy (hy2.of_same ?_ ?_)
     all_goals
      have hag : ∀ t ∈ o.looksAt ops, (fr ops a0 vs' k).tmps.getD t undef = (fr ops a0 vs k).tmps.getD t undef := fun t ht => by
       rw [fr_slot hf hn, fr_slot hf hn]
       refine slot_congr _ _ _ _ _ _ _ (fun j hj hd => ⟨rfl, fun _ => h1 j ?_⟩)
       obtain ⟨oj, hoj, hdj⟩ := Option.bind_eq_some_iff.1 hd
       exact hI.closed k j hk ((fits_pre hf ho hoj hdj (.inl ht) (by omega)).1 hj)
      first
       | exact eval_agree (fun cs b => fits_select hf k o cs b ho) hag
       | exact wanted_agree hag
    ·simp only [if_neg hki]
     exact h1 k hk
   ·rw [show fr ops a0 (fun k => if k = i then v else vs' k) (i + 1) = (fr ops a0 vs' i).put o.dst v by
     rw [fr_succ, fr_congr _ vs' i (fun k hk => by simp only [if_neg (Nat.ne_of_lt hk)]), ho]
     simp]
    exact h4
   ·refine h3 j w' (fun hlt g hgj => ?_)
    have := hj (by omega) g hgj
    simpa only [if_neg (Nat.ne_of_lt hlt)] using this
  | some g =>
   rw [hg] at h2
   obtain ⟨_, _, h4⟩ := h2
   obtain ⟨v, hv, hvl⟩ : ∃ v, g.1 v ∧ (listed.getD i false = true → v = vs i) := by
    rcases hl : listed.getD i false with _ | _
    ·obtain ⟨v, hv⟩ := hne i g hg
     exact ⟨v, hv, fun h => by cases h⟩
    ·exact ⟨vs i, (hI.fact i g (by omega) hl hg).1, fun _ => rfl⟩
   refine ⟨fun k => if k = i then v else vs' k, fun j w => if j = i then g.2 v w else F j w, fun k hk => ?_, ?_, fun j w' hj => ?_⟩
   ·by_cases hki : k = i
    ·subst hki; simp only [if_true]; exact hvl hk
    ·simp only [if_neg hki]; exact h1 k hk
   ·rw [show fr ops a0 (fun k => if k = i then v else vs' k) (i + 1) = (fr ops a0 vs' i).put o.dst v by
     rw [fr_succ, fr_congr _ vs' i (fun k hk => by simp only [if_neg (Nat.ne_of_lt hk)]), ho]
     simp]
    exact h4 v hv
   ·by_cases hji : j = i
    ·subst hji
     simp only [if_true]
     have := hj (by omega) g hg
     simpa only [if_true] using this
    ·simp only [if_neg hji]
     refine h3 j w' (fun hlt g' hg' => ?_)
     have := hj (by omega) g' hg'
     simpa only [if_neg hji] using this

theorem RInv.step (hf : regionFits ops n = true) (hn : a0.tmps.size = n) {listed : Array Bool} (hsz : listed.size = ops.size) {a : Act} {w w' : World} {vs vs' : Nat → Value} {i : Nat} {o : Oper} {v : Value} (hI : RInv P ops G X a0 listed a w vs)
  (ho : ops[i]? = some o) (hun : listed.getD i true = false) (hpre : ∀ j, preB ops i j = true → listed.getD j false = true) (hvs : ∀ k, listed.getD k false = true → vs' k = vs k)
  (hx : X (upd (fun k => listed.getD k false) i) w') (hkeep : ∀ k g, k < ops.size → listed.getD k false = true → G k = some g → g.2 (vs k) w → g.2 (vs k) w') (hy : G i = none → Yields P ops o v (fr ops a0 vs' i)) (hg : ∀ g, G i = some g → g.1 v ∧ g.2 v w') :
  RInv P ops G X a0 (listed.setIfInBounds i true) (a.put o.dst v) w' (fun k => if k = i then v else vs' k) := by
 have hi : i < ops.size := (Array.getElem?_eq_some_iff.1 ho).1
 have hi' : i < listed.size := by omega
 have hunf : listed.getD i false = false := by simpa [hi'] using hun
 have hag : ∀ k ok, ops[k]? = some ok → listed.getD k false = true → ∀ t ∈ ok.looksAt ops, (fr ops a0 (fun k => if k = i then v else vs' k) k).tmps.getD t undef = (fr ops a0 vs k).tmps.getD t undef := fun k ok hok hk t ht => by
  rw [fr_slot hf hn, fr_slot hf hn]
  refine slot_congr _ _ _ _ _ _ _ (fun j hj hd => ⟨rfl, fun _ => ?_⟩)
  obtain ⟨oj, hoj, hdj⟩ := Option.bind_eq_some_iff.1 hd
  have hjl := hI.closed k j hk ((fits_pre hf hok hoj hdj (.inl ht) (by omega)).1 hj)
  have hne : j ≠ i := fun e => by rw [e, hunf] at hjl; cases hjl
  simp only [if_neg hne]
  exact hvs j hjl
 refine ⟨(show (fun k => (listed.setIfInBounds i true).getD k false) = upd (fun k => listed.getD k false) i from funext fun k => setD hi') ▸ hx, ?_, ?_, fun t => ?_, fun k j hk hj => ?_, fun k ok hok hk hgk => ?_, fun k g hk hl hgk => ?_⟩
 ·rw [← hI.size]; unfold Act.put; split <;> simp
 ·rw [← hI.defers]; unfold Act.put; split <;> rfl
 · -- the slots
  have hS : ∀ j, j ≠ i → (listed.setIfInBounds i true).getD j false = listed.getD j false := fun j hj => by rw [setD hi', if_neg hj]
  by_cases hd : o.dst = some t
  ·have hlt := fits_dst hf ho hd
   rw [hd, put_getD _ _ _ _ (by rw [hI.size, hn]; exact hlt), if_pos rfl]
   rw [slot_cut _ _ _ t (i + 1) ops.size (by omega) (fun j hj1 hj2 hdj => ?_)]
   ·unfold slotAt
    rw [if_pos ⟨by rw [setD hi', if_pos rfl], by rw [ho]; exact hd⟩, if_pos rfl]
   ·obtain ⟨oj, hoj, hdj⟩ := Option.bind_eq_some_iff.1 hdj
    rw [hS j (by omega)]
    rcases hb : listed.getD j false with _ | _
    ·rfl
    ·have := hI.closed j i hb ((fits_pre hf ho hoj hdj (.inr hd) (by omega)).2 (by omega))
     rw [hunf] at this; cases this
  ·have e1 : (a.put o.dst v).tmps.getD t undef = a.tmps.getD t undef := by
    cases hdd : o.dst with
    | none => rfl
    | some d =>
     have hlt := fits_dst hf ho hdd
     rw [put_getD _ _ _ _ (by rw [hI.size, hn]; exact hlt), if_neg (fun e => hd (by rw [hdd, e]))]
   rw [e1, hI.slot t]
   refine slot_congr _ _ _ _ _ _ _ (fun j hj hdj => ?_)
   have hne : j ≠ i := fun e => by
    rw [e, ho] at hdj
    exact hd hdj
   rw [hS j hne]
   refine ⟨rfl, fun hl => ?_⟩
   simp only [if_neg hne]
   exact (hvs j hl).symm
 ·rw [setD hi'] at hk ⊢
  by_cases hji : j = i
  ·rw [if_pos hji]
  ·rw [if_neg hji]
   by_cases hki : k = i
   ·subst hki; exact hpre j hj
   ·rw [if_neg hki] at hk
    exact hI.closed k j hk hj
 ·rw [setD hi'] at hk
  by_cases hki : k = i
  ·subst hki
   rw [ho] at hok; injection hok with hok; subst hok
   simp only [if_true]
   have := hy hgk
   rw [fr_congr (fun j => if j = k then v else vs' j) vs' k (fun j hj => by simp only [if_neg (Nat.ne_of_lt hj)])]
   exact this
  ·rw [if_neg hki] at hk
   simp only [if_neg hki]
   rw [hvs k hk]
   have hy2 := hI.pure_ k ok hok hk hgk
   exact hy2.of_same (eval_agree (fun cs b => fits_select hf k ok cs b hok) (hag k ok hok hk)) (wanted_agree (hag k ok hok hk))
 ·rw [setD hi'] at hl
  by_cases hki : k = i
  ·subst hki
   simp only [if_true]
   exact hg g hgk
  ·rw [if_neg hki] at hl
   simp only [if_neg hki]
   rw [hvs k hl]
   exact ⟨(hI.fact k g hk hl hgk).1, hkeep k g hk hl hgk (hI.fact k g hk hl hgk).2⟩

theorem RInv.done (hne : ∀ k g, G k = some g → ∃ v, g.1 v) (hf : regionFits ops n = true) (hn : a0.tmps.size = n) (hc : Chain P ops G R X Qn 0 ops.toList a0 (fun _ _ => True)) {listed : Array Bool} {a : Act} {w : World} {vs : Nat → Value} (hI : RInv P ops G X a0 listed a w vs) (hall : ∀ k, k < ops.size → listed.getD k false = true) : Qn a w := by
 obtain ⟨vs', F, h1, h2, h3⟩ := descend hne hf hn hc hI ops.size (Nat.le_refl _)
 rw [List.drop_of_length_le (by simp)] at h2
 unfold Chain at h2
 have ha : a = fr ops a0 vs' ops.size := by
  have hs := fr_size (ops := ops) a0 vs' ops.size
  have ht : a.tmps = (fr ops a0 vs' ops.size).tmps := by
   apply Array.ext
   ·rw [hI.size, hs.1]
   ·intro t h4 h5
    have e1 := hI.slot t
    have e2 := fr_slot hf hn vs' t ops.size
    have e3 : slotAt ops a0 vs (fun k => listed.getD k false) t ops.size = slotAt ops a0 vs' (fun _ => true) t ops.size :=
     slot_congr _ _ _ _ _ _ _ (fun j hj _ => ⟨hall j hj, fun _ => (h1 j (hall j hj)).symm⟩)
    rw [e3, ← e2] at e1
    simpa [h4, h5] using e1
  have hd : a.defers = (fr ops a0 vs' ops.size).defers := by rw [hI.defers, hs.2]
  cases a
  cases hfr : fr ops a0 vs' ops.size
  rw [hfr] at ht hd
  simp only at ht hd
  rw [ht, hd]
 rw [ha]
 refine h2 _ w hall hI.x (fun j => h3 j w (fun hlt g hg => ?_))
 rw [h1 j (hall j hlt)]
 exact (hI.fact j g hlt (hall j hlt) hg).2

theorem wpAny_chain {Q : Exit → Act → World → Prop} (hne : ∀ k g, G k = some g → ∃ v, g.1 v) (hf : regionFits ops n = true) (hn : a0.tmps.size = n) (hst : ∀ k g, G k = some g → ∀ v w w', R w w' → g.2 v w → g.2 v w') (hpx : ∀ i D w, G i = none → X D w → X (upd D i) w) (hc : Chain P ops G R X (Q .normal) 0 ops.toList a0 (fun _ _ => True)) :
  ∀ (fuel : Nat) (listed : Array Bool) (a : Act) (w : World) (vs : Nat → Value), listed.size = ops.size → toCome listed ≤ fuel → RInv P ops G X a0 listed a w vs → wpAny P .any ops Q fuel listed a w := by
 intro fuel
 induction fuel with
 | zero =>
  intro listed a w vs hsz hle hI
  have hall : ∀ k, k < ops.size → listed.getD k false = true := fun k hk => toCome_zero (by omega) k (by omega)
  refine wpAny_done ?_ (hI.done hne hf hn hc hall) 0
  refine List.eq_nil_iff_forall_not_mem.2 (fun i hi => ?_)
  obtain ⟨h1, o, ho, _⟩ := mem_ready.1 hi
  have hlt := (Array.getElem?_eq_some_iff.1 ho).1
  have := hall i hlt
  have hlt2 : i < listed.size := by omega
  simp [hlt2] at h1 this
  rw [h1] at this; cases this
 | succ fuel ih =>
  intro listed a w vs hsz hle hI
  refine ⟨fun hr => ?_, fun i hi => ?_⟩
  ·refine hI.done hne hf hn hc (fun k hk => ?_)
   suffices h : ∀ m k, k ≤ m → k < ops.size → listed.getD k false = true from h k k (Nat.le_refl _) hk
   intro m
   induction m with
   | zero =>
    intro k hk0 hk
    obtain rfl : k = 0 := by omega
    rcases hb : listed.getD 0 false with _ | _
    ·exfalso
     have hlt2 : 0 < listed.size := by omega
     have hmem : 0 ∈ Region.ready .any ops listed := mem_ready.2 ⟨by simpa [hlt2] using hb, _, Array.getElem?_eq_getElem hk, fun e he hbd => absurd (fits_edge hf (Array.getElem?_eq_getElem hk) he hbd) (by omega)⟩
     rw [hr] at hmem; cases hmem
    ·rfl
   | succ m ihm =>
    intro k hkm hk
    rcases Nat.lt_or_ge k (m + 1) with h | h
    ·exact ihm k (by omega) hk
    ·obtain rfl : k = m + 1 := by omega
     rcases hb : listed.getD (m + 1) false with _ | _
     ·exfalso
      have hlt2 : m + 1 < listed.size := by omega
      have hmem : m + 1 ∈ Region.ready .any ops listed := mem_ready.2 ⟨by simpa [hlt2] using hb, _, Array.getElem?_eq_getElem hk, fun e he hbd => by
       have := fits_edge hf (Array.getElem?_eq_getElem hk) he hbd
       exact ihm e.on (by omega) (by omega)⟩
      rw [hr] at hmem; cases hmem
     ·rfl
  ·obtain ⟨hun, o, ho, hall⟩ := mem_ready.1 hi
   have hlt := (Array.getElem?_eq_some_iff.1 ho).1
   have hlt2 : i < listed.size := by omega
   have hunf : listed.getD i false = false := by simpa [hlt2] using hun
   have hpre : ∀ j, preB ops i j = true → listed.getD j false = true := fun j hj => by
    obtain ⟨e, he, hb, h⟩ := pre_step ho hj
    rcases h with h | h
    ·rw [← h]; exact hall e he hb
    ·exact hI.closed e.on j (hall e he hb) h
   obtain ⟨vs', F, h1, h2, h3⟩ := descend hne hf hn hc hI i (by omega)
   have hil : i < ops.toList.length := by simp; omega
   rw [List.drop_eq_getElem_cons hil] at h2
   have hoe : ops.toList[i] = o := by
    have := ho
    rw [Array.getElem?_eq_getElem (by omega)] at this
    simpa using this
   rw [hoe] at h2
   have hag : ∀ t ∈ o.looksAt ops, a.tmps.getD t undef = (fr ops a0 vs' i).tmps.getD t undef := fun t ht => by
    rw [hI.slot t, fr_slot hf hn]
    rw [slot_cut _ _ _ t i ops.size (by omega) (fun j hj1 hj2 hdj => ?_)]
    ·refine slot_congr _ _ _ _ _ _ _ (fun j hj hdj => ?_)
     obtain ⟨oj, hoj, hd⟩ := Option.bind_eq_some_iff.1 hdj
     have hjl := hpre j ((fits_pre hf ho hoj hd (.inl ht) (by omega)).1 hj)
     exact ⟨hjl, fun _ => (h1 j hjl).symm⟩
    ·rcases Nat.lt_or_ge i j with h | h
     ·obtain ⟨oj, hoj, hd⟩ := Option.bind_eq_some_iff.1 hdj
      rcases hb : listed.getD j false with _ | _
      ·rfl
      ·have := hI.closed j i hb ((fits_pre hf ho hoj hd (.inl ht) (by omega)).2 h)
       rw [hunf] at this; cases this
     ·obtain rfl : j = i := by omega
      exact hunf
   have he := eval_agree (fun cs b => fits_select hf i o cs b ho) hag
   have hw := wanted_agree hag
   have hsz2 : a.tmps.size = (fr ops a0 vs' i).tmps.size := by rw [hI.size, (fr_size a0 vs' i).1]
   have hcount : toCome (listed.setIfInBounds i true) ≤ fuel := by have := toCome_set hlt2 hun; omega
   unfold Chain at h2
   cases hg : G i with
   | none =>
    rw [hg] at h2
    obtain ⟨v, hy, _⟩ := h2
    have hya : Yields P ops o v a := hy.of_same he hw
    refine hya.wpOp ho ?_
    refine ih _ _ _ (fun k => if k = i then v else vs' k) (by simp [hsz]) hcount ?_
    exact hI.step hf hn hsz ho hun hpre h1 (hpx i _ w hg hI.x) (fun _ _ _ _ _ h => h) (fun _ => hy) (fun g h => by rw [hg] at h; cases h)
   | some g =>
    rw [hg] at h2
    obtain ⟨hwant, hp, _⟩ := h2
    have hp2 := hp _ w hI.x hunf (fun j hj => ⟨hpre j hj, h3 j w (fun hlt' g' hg' => by
     have hjl := hpre j hj
     rw [h1 j hjl]
     exact (hI.fact j g' (by omega) hjl hg').2)⟩)
    unfold wpOp
    simp only [ho, hw, hwant, if_true]
    left
    unfold Oper.wp at hp2 ⊢
    rw [he]
    refine upon_move hsz2 hp2 (fun v w' hS => ?_)
    obtain ⟨hR, hX, hcv, hgv⟩ := hS
    refine ih _ _ _ (fun k => if k = i then v else vs' k) (by simp [hsz]) hcount ?_
    exact hI.step hf hn hsz ho hun hpre h1 hX (fun k g' hk hl hgk h => hst k g' hgk _ _ _ hR h) (fun h => by rw [hg] at h; cases h) (fun g' h => by rw [hg] at h; injection h with h; subst h; exact ⟨hcv, hgv⟩)

theorem wp_region_chain {id : Nat} {Q : Exit → Act → World → Prop} {w0 : World} (G : Nat → Option ((Value → Prop) × (Value → World → Prop))) (R : World → World → Prop) (X : (Nat → Bool) → World → Prop) (hm : P.follows .mixedOrders = true) (n : Nat) (hf : regionFits ops n = true) (hn : a0.tmps.size = n)
  (hne : ∀ k g, G k = some g → ∃ v, g.1 v) (hst : ∀ k g, G k = some g → ∀ v w w', R w w' → g.2 v w → g.2 v w') (hpx : ∀ i D w, G i = none → X D w → X (upd D i) w) (hx : X (fun _ => false) w0.drew) (hc : Chain P ops G R X (Q .normal) 0 ops.toList a0 (fun _ _ => True)) : (Code.region id ops true).wp P Q a0 w0 :=
 wp_region_any hm (by
  have hsz : (Array.replicate ops.size false).size = ops.size := by simp
  have hrep : ∀ k, (Array.replicate ops.size false).getD k false = false := fun k => by
   simp only [Array.getD_eq_getD_getElem?, Array.getElem?_replicate]
   split <;> rfl
  refine wpAny_chain hne hf hn hst hpx hc ops.size _ a0 _ (fun _ => undef) hsz ?_ ⟨(show (fun k => (Array.replicate ops.size false).getD k false) = fun _ => false from funext hrep) ▸ hx, rfl, rfl, fun t => ?_, fun i j h => ?_, fun k o _ h => ?_, fun k g hk h => ?_⟩
  ·unfold toCome; rw [Array.count_replicate]; simp
  ·have : ∀ k, slotAt ops a0 (fun _ => undef) (fun k => (Array.replicate ops.size false).getD k false) t k = a0.tmps.getD t undef := by
    intro k
    induction k with
    | zero => rfl
    | succ k ih =>
     unfold slotAt
     rw [if_neg (fun h => ?_), ih]
     have := h.1
     rw [hrep] at this
     cases this
   rw [this]
  ·rw [hrep] at h; cases h
  ·rw [hrep] at h; cases h
  ·rw [hrep] at h; cases h)

theorem wp_region_states {id : Nat} {Q : Exit → Act → World → Prop} {w0 : World} (L : List (Nat × Value)) (X : (Nat → Bool) → World → Prop) (hm : P.follows .mixedOrders = true) (n : Nat) (hf : regionFits ops n = true) (hn : a0.tmps.size = n)
  (hpx : ∀ i D w, L.lookup i = none → X D w → X (upd D i) w) (hx : X (fun _ => false) w0.drew)
  (hc : Chain P ops (known L) (fun _ _ => True) X (Q .normal) 0 ops.toList a0 (fun _ _ => True)) : (Code.region id ops true).wp P Q a0 w0 :=
 wp_region_chain (known L) _ X hm n hf hn
  (fun k g h => by
   unfold known at h
   cases hl : L.lookup k with
   | none => rw [hl] at h; cases h
   | some c => rw [hl] at h; injection h with h; subst h; exact ⟨c, rfl⟩)
  (fun k g h v w w' _ hv => by
   unfold known at h
   cases hl : L.lookup k with
   | none => rw [hl] at h; cases h
   | some c => rw [hl] at h; injection h with h; subst h; trivial)
  (fun i D w h hX => hpx i D w (by
   unfold known at h
   cases hl : L.lookup i with
   | none => rfl
   | some c => rw [hl] at h; cases h) hX) hx hc
theorem Chain.weaken : ∀ {l : List Oper} {i : Nat} {a : Act} {F F' : Nat → World → Prop}, (∀ j w, F' j w → F j w) → Chain P ops G R X Qn i l a F → Chain P ops G R X Qn i l a F'
 | [], _, _, _, _, h, hc => fun D w hD hx hF => hc D w hD hx (fun j => h j w (hF j))
 | o :: l, i, a, F, F', h, hc => by
  unfold Chain at hc ⊢
  cases hg : G i with
  | none =>
   rw [hg] at hc
   obtain ⟨v, hy, h2⟩ := hc
   exact ⟨v, hy, Chain.weaken h h2⟩
  | some g =>
   rw [hg] at hc
   obtain ⟨hw, hp, h2⟩ := hc
   refine ⟨hw, fun D w hx hi hF => hp D w hx hi (fun j hj => ⟨(hF j hj).1, h j w (hF j hj).2⟩), fun v hv => Chain.weaken (fun j w hj => ?_) (h2 v hv)⟩
   by_cases hji : j = i
   ·rw [if_pos hji] at hj ⊢; exact hj
   ·rw [if_neg hji] at hj ⊢; exact h j w hj
theorem Chain.step {i : Nat} {o : Oper} {rest : List Oper} {a a' : Act} {F : Nat → World → Prop} {v : Value} {i' : Nat} (hG : G i = none) (hw : Region.wanted o (yielded ops a.tmps) = true) (hi : i + 1 = i') (hy : ∀ w, (execOp a.eval o).run P w = .ok (.value v) w) (ha : a.put o.dst v = a')
  (hc : Chain P ops G R X Qn i' rest a' F) : Chain P ops G R X Qn i (o :: rest) a F := by
 subst ha; subst hi
 unfold Chain
 rw [hG]
 exact ⟨v, .inl ⟨hw, hy⟩, hc⟩
theorem Chain.skip {i : Nat} {o : Oper} {rest : List Oper} {a a' : Act} {F : Nat → World → Prop} {i' : Nat} (hG : G i = none) (hw : Region.wanted o (yielded ops a.tmps) = false) (hi : i + 1 = i') (ha : a.put o.dst undef = a')
  (hc : Chain P ops G R X Qn i' rest a' F) : Chain P ops G R X Qn i (o :: rest) a F := by
 subst ha; subst hi
 unfold Chain
 rw [hG]
 exact ⟨undef, .inr ⟨hw, rfl⟩, hc⟩
theorem Chain.end_ {i : Nat} {a : Act} {F : Nat → World → Prop} (h : ∀ D w, (∀ k, k < ops.size → D k = true) → X D w → Qn a w) : Chain P ops G R X Qn i [] a F := fun D w hD hx _ => h D w hD hx
theorem Chain.call {L : List (Nat × Value)} {i : Nat} {o : Oper} {rest : List Oper} {a a' : Act} {i' : Nat} (c : Value) (hG : L.lookup i = some c) (hw : Region.wanted o (yielded ops a.tmps) = true) (hi : i + 1 = i')
  (hp : ∀ D w, X D w → D i = false → (∀ j, preB ops i j = true → D j = true) → o.wp P a w (fun a' w' => a' = a.put o.dst c ∧ X (upd D i) w') (fun _ _ _ => False))
  (ha : a.put o.dst c = a') (hc : Chain P ops (known L) (fun _ _ => True) X Qn i' rest a' (fun _ _ => True)) : Chain P ops (known L) (fun _ _ => True) X Qn i (o :: rest) a (fun _ _ => True) := by
 subst ha; subst hi
 unfold Chain
 rw [show known L i = some (isV c, noFact) by unfold known; rw [hG]; rfl]
 refine ⟨hw, fun D w hx hi hF => Oper.wp_mono (fun _ w' ⟨h1, h2⟩ => ⟨c, h1, trivial, h2, rfl, trivial⟩) (hp D w hx hi (fun j hj => (hF j hj).1)), fun v hv => ?_⟩
 rw [show v = c from hv]
 exact Chain.weaken (F := fun _ _ => True) (fun _ _ _ => trivial) hc

end
end Go.Bar.Dn
