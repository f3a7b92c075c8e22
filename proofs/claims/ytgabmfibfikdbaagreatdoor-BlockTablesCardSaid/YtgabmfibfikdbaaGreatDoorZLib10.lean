/-
 A region that draws its order and whose calls turn the world: walked once in the order of the text; X D w tells how the world stands
 when the operations of D have been carried out. The invariant sees the values. Printed by wip/mklib10.py from XLib7.lean.tpl. Plain lemmas over any program; no condition.
-/
import Derived.Test.YtgabmfibfikdbaaGreatDoorZLib7

namespace Go.Bar.Dv
open Go.RowKit Go.Bar Go.Bar.Dn

def updV (vs : Nat → Value) (i : Nat) (v : Value) : Nat → Value := fun k => if k = i then v else vs k
theorem updV_self (vs : Nat → Value) (i : Nat) (v : Value) : updV vs i v i = v := by unfold updV; rw [if_pos rfl]
theorem updV_ne (vs : Nat → Value) {i j : Nat} (v : Value) (h : j ≠ i) : updV vs i v j = vs j := by unfold updV; rw [if_neg h]

def Chain (P : Program) (ops : Array Oper) (G : Nat → Option (Value → Prop)) (X : (Nat → Value) → (Nat → Bool) → World → Prop) (Qn : Act → World → Prop) : Nat → List Oper → Act → List (Nat × Value) → Prop
 | _, [], a, M => ∀ vs D w, (∀ k, k < ops.size → D k = true) → X vs D w → (∀ j v, M.lookup j = some v → vs j = v) → Qn a w
 | i, o :: rest, a, M =>
  match G i with
  | none => ∃ v, Yields P ops o v a ∧ Chain P ops G X Qn (i + 1) rest (a.put o.dst v) M
  | some C => Region.wanted o (yielded ops a.tmps) = true ∧
   (∀ vs D w, X vs D w → D i = false → (∀ j, preB ops i j = true → D j = true) → (∀ j v, preB ops i j = true → M.lookup j = some v → vs j = v) → o.wp P a w (fun a' w' => ∃ v, a' = a.put o.dst v ∧ C v ∧ X (updV vs i v) (upd D i) w') (fun _ _ _ => False)) ∧
   ∀ v, C v → Chain P ops G X Qn (i + 1) rest (a.put o.dst v) ((i, v) :: M)

structure RInv (P : Program) (ops : Array Oper) (G : Nat → Option (Value → Prop)) (X : (Nat → Value) → (Nat → Bool) → World → Prop) (a0 : Act) (listed : Array Bool) (a : Act) (w : World) (vs : Nat → Value) : Prop where
 x : X vs (fun k => listed.getD k false) w
 size : a.tmps.size = a0.tmps.size
 defers : a.defers = a0.defers
 slot : ∀ t, a.tmps.getD t undef = slotAt ops a0 vs (fun k => listed.getD k false) t ops.size
 closed : ∀ i j, listed.getD i false = true → preB ops i j = true → listed.getD j false = true
 pure_ : ∀ k o, ops[k]? = some o → listed.getD k false = true → G k = none → Yields P ops o (vs k) (fr ops a0 vs k)
 fact : ∀ k g, k < ops.size → listed.getD k false = true → G k = some g → g (vs k)

section
variable {P : Program} {ops : Array Oper} {G : Nat → Option (Value → Prop)} {X : (Nat → Value) → (Nat → Bool) → World → Prop} {Qn : Act → World → Prop} {n : Nat} {a0 : Act}

theorem descend (hne : ∀ k g, G k = some g → ∃ v, g v) (hf : regionFits ops n = true) (hn : a0.tmps.size = n) (hc : Chain P ops G X Qn 0 ops.toList a0 []) {listed : Array Bool} {a : Act} {w : World} {vs : Nat → Value} (hI : RInv P ops G X a0 listed a w vs) :
  ∀ i, i ≤ ops.size → ∃ vs' M, (∀ k, listed.getD k false = true → vs' k = vs k) ∧ Chain P ops G X Qn i (ops.toList.drop i) (fr ops a0 vs' i) M ∧ (∀ j v, M.lookup j = some v → j < i ∧ vs' j = v)
 | 0, _ => ⟨vs, [], fun _ _ => rfl, hc, fun _ _ h => by cases h⟩
 | i + 1, h => by
  obtain ⟨vs', M, h1, h2, h3⟩ := descend hne hf hn hc hI i (by omega)
  have hil : i < ops.toList.length := by simp; omega
  rw [List.drop_eq_getElem_cons hil] at h2
  obtain ⟨o, ho⟩ : ∃ o, ops[i]? = some o := ⟨_, Array.getElem?_eq_getElem (by omega)⟩
  have hoe : ops.toList[i] = o := by
   have := ho
   rw [Array.getElem?_eq_getElem (by omega)] at this
   simpa using this
  rw [hoe] at h2
  unfold Chain at h2
  cases hg : G i with
  | none =>
   rw [hg] at h2
   obtain ⟨v, hy, h4⟩ := h2
   refine ⟨fun k => if k = i then v else vs' k, M, fun k hk => ?_, ?_, fun j v' hj => ?_⟩
   ·by_cases hki : k = i
    ·subst hki
     simp only [if_true]
     have hy2 := hI.pure_ k o ho hk hg
     refine Yields.unique w hy (hy2.of_same ?_ ?_)
     all_goals
      have hag : ∀ t ∈ o.looksAt ops, (fr ops a0 vs' k).tmps.getD t undef = (fr ops a0 vs k).tmps.getD t undef := fun t ht => by
       rw [fr_slot hf hn, fr_slot hf hn]
       refine slot_congr _ _ _ _ _ _ _ (fun j hj hd => ⟨rfl, fun _ => h1 j ?_⟩)
       obtain ⟨oj, hoj, hdj⟩ := Option.bind_eq_some_iff.1 hd
       exact hI.closed k j hk ((fits_pre hf ho hoj hdj (.inl ht) (by omega)).1 hj)
      first
       | exact eval_agree (fun cs b => fits_select hf k o cs b ho) hag
       | exact wanted_agree hag
    ·simp only [if_neg hki]
     exact h1 k hk
   ·rw [show fr ops a0 (fun k => if k = i then v else vs' k) (i + 1) = (fr ops a0 vs' i).put o.dst v by
     rw [fr_succ, fr_congr _ vs' i (fun k hk => by simp only [if_neg (Nat.ne_of_lt hk)]), ho]
     simp]
    exact h4
   ·obtain ⟨hlt, hv'⟩ := h3 j v' hj
    exact ⟨by omega, by simp only [if_neg (Nat.ne_of_lt hlt)]; exact hv'⟩
  | some g =>
   rw [hg] at h2
   obtain ⟨_, _, h4⟩ := h2
   obtain ⟨v, hv, hvl⟩ : ∃ v, g v ∧ (listed.getD i false = true → v = vs i) := by
    rcases hl : listed.getD i false with _ | _
    ·obtain ⟨v, hv⟩ := hne i g hg
     exact ⟨v, hv, fun h => by cases h⟩
    ·exact ⟨vs i, hI.fact i g (by omega) hl hg, fun _ => rfl⟩
   refine ⟨fun k => if k = i then v else vs' k, (i, v) :: M, fun k hk => ?_, ?_, fun j v' hj => ?_⟩
   ·by_cases hki : k = i
    ·subst hki; simp only [if_true]; exact hvl hk
    ·simp only [if_neg hki]; exact h1 k hk
   ·rw [show fr ops a0 (fun k => if k = i then v else vs' k) (i + 1) = (fr ops a0 vs' i).put o.dst v by
     rw [fr_succ, fr_congr _ vs' i (fun k hk => by simp only [if_neg (Nat.ne_of_lt hk)]), ho]
     simp]
    exact h4 v hv
   ·by_cases hji : j = i
    ·subst hji
     rw [List.lookup_cons, beq_self_eq_true] at hj
     simp only [Option.some.injEq] at hj
     exact ⟨by omega, by simp only [if_true]; exact hj⟩
    ·have : (j == i) = false := by simpa using hji
     rw [List.lookup_cons, this] at hj
     obtain ⟨hlt, hv'⟩ := h3 j v' hj
     exact ⟨by omega, by simp only [if_neg hji]; exact hv'⟩

theorem RInv.step (hf : regionFits ops n = true) (hn : a0.tmps.size = n) {listed : Array Bool} (hsz : listed.size = ops.size) {a : Act} {w w' : World} {vs vs' : Nat → Value} {i : Nat} {o : Oper} {v : Value} (hI : RInv P ops G X a0 listed a w vs)
  (ho : ops[i]? = some o) (hun : listed.getD i true = false) (hpre : ∀ j, preB ops i j = true → listed.getD j false = true) (hvs : ∀ k, listed.getD k false = true → vs' k = vs k)
  (hx : X (fun k => if k = i then v else vs' k) (upd (fun k => listed.getD k false) i) w') (hy : G i = none → Yields P ops o v (fr ops a0 vs' i)) (hg : ∀ g, G i = some g → g v) :
  RInv P ops G X a0 (listed.setIfInBounds i true) (a.put o.dst v) w' (fun k => if k = i then v else vs' k) := by
 have hi : i < ops.size := (Array.getElem?_eq_some_iff.1 ho).1
 have hi' : i < listed.size := by omega
 have hunf : listed.getD i false = false := by simpa [hi'] using hun
 have hag : ∀ k ok, ops[k]? = some ok → listed.getD k false = true → ∀ t ∈ ok.looksAt ops, (fr ops a0 (fun k => if k = i then v else vs' k) k).tmps.getD t undef = (fr ops a0 vs k).tmps.getD t undef := fun k ok hok hk t ht => by
  rw [fr_slot hf hn, fr_slot hf hn]
  refine slot_congr _ _ _ _ _ _ _ (fun j hj hd => ⟨rfl, fun _ => ?_⟩)
  obtain ⟨oj, hoj, hdj⟩ := Option.bind_eq_some_iff.1 hd
  have hjl := hI.closed k j hk ((fits_pre hf hok hoj hdj (.inl ht) (by omega)).1 hj)
  have hne : j ≠ i := fun e => by rw [e, hunf] at hjl; cases hjl
  simp only [if_neg hne]
  exact hvs j hjl
 refine ⟨(show (fun k => (listed.setIfInBounds i true).getD k false) = upd (fun k => listed.getD k false) i from funext fun k => setD hi') ▸ hx, ?_, ?_, fun t => ?_, fun k j hk hj => ?_, fun k ok hok hk hgk => ?_, fun k g hk hl hgk => ?_⟩
 ·rw [← hI.size]; unfold Act.put; split <;> simp
 ·rw [← hI.defers]; unfold Act.put; split <;> rfl
 · -- the slots
  have hS : ∀ j, j ≠ i → (listed.setIfInBounds i true).getD j false = listed.getD j false := fun j hj => by rw [setD hi', if_neg hj]
  by_cases hd : o.dst = some t
  ·have hlt := fits_dst hf ho hd
   rw [hd, put_getD _ _ _ _ (by rw [hI.size, hn]; exact hlt), if_pos rfl]
   rw [slot_cut _ _ _ t (i + 1) ops.size (by omega) (fun j hj1 hj2 hdj => ?_)]
   ·unfold slotAt
    rw [if_pos ⟨by rw [setD hi', if_pos rfl], by rw [ho]; exact hd⟩, if_pos rfl]
   ·obtain ⟨oj, hoj, hdj⟩ := Option.bind_eq_some_iff.1 hdj
    rw [hS j (by omega)]
    rcases hb : listed.getD j false with _ | _
    ·rfl
    ·have := hI.closed j i hb ((fits_pre hf ho hoj hdj (.inr hd) (by omega)).2 (by omega))
     rw [hunf] at this; cases this
  ·have e1 : (a.put o.dst v).tmps.getD t undef = a.tmps.getD t undef := by
    cases hdd : o.dst with
    | none => rfl
    | some d =>
     have hlt := fits_dst hf ho hdd
     rw [put_getD _ _ _ _ (by rw [hI.size, hn]; exact hlt), if_neg (fun e => hd (by rw [hdd, e]))]
   rw [e1, hI.slot t]
   refine slot_congr _ _ _ _ _ _ _ (fun j hj hdj => ?_)
   have hne : j ≠ i := fun e => by
    rw [e, ho] at hdj
    exact hd hdj
   rw [hS j hne]
   refine ⟨rfl, fun hl => ?_⟩
   simp only [if_neg hne]
   exact (hvs j hl).symm
 ·rw [setD hi'] at hk ⊢
  by_cases hji : j = i
  ·rw [if_pos hji]
  ·rw [if_neg hji]
   by_cases hki : k = i
   ·subst hki; exact hpre j hj
   ·rw [if_neg hki] at hk
    exact hI.closed k j hk hj
 ·rw [setD hi'] at hk
  by_cases hki : k = i
  ·subst hki
   rw [ho] at hok; injection hok with hok; subst hok
   simp only [if_true]
   have := hy hgk
   rw [fr_congr (fun j => if j = k then v else vs' j) vs' k (fun j hj => by simp only [if_neg (Nat.ne_of_lt hj)])]
   exact this
  ·rw [if_neg hki] at hk
   simp only [if_neg hki]
   rw [hvs k hk]
   have hy2 := hI.pure_ k ok hok hk hgk
   exact hy2.of_same (eval_agree (fun cs b => fits_select hf k ok cs b hok) (hag k ok hok hk)) (wanted_agree (hag k ok hok hk))
 ·rw [setD hi'] at hl
  by_cases hki : k = i
  ·subst hki
   simp only [if_true]
   exact hg g hgk
  ·rw [if_neg hki] at hl
   simp only [if_neg hki]
   rw [hvs k hl]
   exact hI.fact k g hk hl hgk

theorem RInv.done (hxc : ∀ vs vs' D w, (∀ k, D k = true → vs k = vs' k) → X vs D w → X vs' D w) (hne : ∀ k g, G k = some g → ∃ v, g v) (hf : regionFits ops n = true) (hn : a0.tmps.size = n) (hc : Chain P ops G X Qn 0 ops.toList a0 []) {listed : Array Bool} {a : Act} {w : World} {vs : Nat → Value} (hI : RInv P ops G X a0 listed a w vs) (hall : ∀ k, k < ops.size → listed.getD k false = true) : Qn a w := by
 obtain ⟨vs', M, h1, h2, h3⟩ := descend hne hf hn hc hI ops.size (Nat.le_refl _)
 rw [List.drop_of_length_le (by simp)] at h2
 unfold Chain at h2
 have ha : a = fr ops a0 vs' ops.size := by
  have hs := fr_size (ops := ops) a0 vs' ops.size
  have ht : a.tmps = (fr ops a0 vs' ops.size).tmps := by
   apply Array.ext
   ·rw [hI.size, hs.1]
   ·intro t h4 h5
    have e1 := hI.slot t
    have e2 := fr_slot hf hn vs' t ops.size
    have e3 : slotAt ops a0 vs (fun k => listed.getD k false) t ops.size = slotAt ops a0 vs' (fun _ => true) t ops.size :=
     slot_congr _ _ _ _ _ _ _ (fun j hj _ => ⟨hall j hj, fun _ => (h1 j (hall j hj)).symm⟩)
    rw [e3, ← e2] at e1
    simpa [h4, h5] using e1
  have hd : a.defers = (fr ops a0 vs' ops.size).defers := by rw [hI.defers, hs.2]
  cases a
  cases hfr : fr ops a0 vs' ops.size
  rw [hfr] at ht hd
  simp only at ht hd
  rw [ht, hd]
 rw [ha]
 exact h2 vs' _ w hall (hxc vs vs' _ w (fun k hk => (h1 k hk).symm) hI.x) (fun j v hj => (h3 j v hj).2)

theorem wpAny_chain {Q : Exit → Act → World → Prop} (hne : ∀ k g, G k = some g → ∃ v, g v) (hf : regionFits ops n = true) (hn : a0.tmps.size = n) (hxc : ∀ vs vs' D w, (∀ k, D k = true → vs k = vs' k) → X vs D w → X vs' D w) (hpx : ∀ i vs D w v, G i = none → X vs D w → X (updV vs i v) (upd D i) w) (hc : Chain P ops G X (Q .normal) 0 ops.toList a0 []) :
  ∀ (fuel : Nat) (listed : Array Bool) (a : Act) (w : World) (vs : Nat → Value), listed.size = ops.size → toCome listed ≤ fuel → RInv P ops G X a0 listed a w vs → wpAny P .any ops Q fuel listed a w := by
 intro fuel
 induction fuel with
 | zero =>
  intro listed a w vs hsz hle hI
  have hall : ∀ k, k < ops.size → listed.getD k false = true := fun k hk => toCome_zero (by omega) k (by omega)
  refine wpAny_done ?_ (hI.done hxc hne hf hn hc hall) 0
  refine List.eq_nil_iff_forall_not_mem.2 (fun i hi => ?_)
  obtain ⟨h1, o, ho, _⟩ := mem_ready.1 hi
  have hlt := (Array.getElem?_eq_some_iff.1 ho).1
  have := hall i hlt
  have hlt2 : i < listed.size := by omega
  simp [hlt2] at h1 this
  rw [h1] at this; cases this
 | succ fuel ih =>
  intro listed a w vs hsz hle hI
  refine ⟨fun hr => ?_, fun i hi => ?_⟩
  ·refine hI.done hxc hne hf hn hc (fun k hk => ?_)
   suffices h : ∀ m k, k ≤ m → k < ops.size → listed.getD k false = true from h k k (Nat.le_refl _) hk
   intro m
   induction m with
   | zero =>
    intro k hk0 hk
    obtain rfl : k = 0 := by omega
    rcases hb : listed.getD 0 false with _ | _
    ·exfalso
     have hlt2 : 0 < listed.size := by omega
     have hmem : 0 ∈ Region.ready .any ops listed := mem_ready.2 ⟨by simpa [hlt2] using hb, _, Array.getElem?_eq_getElem hk, fun e he hbd => absurd (fits_edge hf (Array.getElem?_eq_getElem hk) he hbd) (by omega)⟩
     rw [hr] at hmem; cases hmem
    ·rfl
   | succ m ihm =>
    intro k hkm hk
    rcases Nat.lt_or_ge k (m + 1) with h | h
    ·exact ihm k (by omega) hk
    ·obtain rfl : k = m + 1 := by omega
     rcases hb : listed.getD (m + 1) false with _ | _
     ·exfalso
      have hlt2 : m + 1 < listed.size := by omega
      have hmem : m + 1 ∈ Region.ready .any ops listed := mem_ready.2 ⟨by simpa [hlt2] using hb, _, Array.getElem?_eq_getElem hk, fun e he hbd => by
       have := fits_edge hf (Array.getElem?_eq_getElem hk) he hbd
       exact ihm e.on (by omega) (by omega)⟩
      rw [hr] at hmem; cases hmem
     ·rfl
  ·obtain ⟨hun, o, ho, hall⟩ := mem_ready.1 hi
   have hlt := (Array.getElem?_eq_some_iff.1 ho).1
   have hlt2 : i < listed.size := by omega
   have hunf : listed.getD i false = false := by simpa [hlt2] using hun
   have hpre : ∀ j, preB ops i j = true → listed.getD j false = true := fun j hj => by
    obtain ⟨e, he, hb, h⟩ := pre_step ho hj
    rcases h with h | h
    ·rw [← h]; exact hall e he hb
    ·exact hI.closed e.on j (hall e he hb) h
   obtain ⟨vs', M, h1, h2, h3⟩ := descend hne hf hn hc hI i (by omega)
   have hil : i < ops.toList.length := by simp; omega
   rw [List.drop_eq_getElem_cons hil] at h2
   have hoe : ops.toList[i] = o := by
    have := ho
    rw [Array.getElem?_eq_getElem (by omega)] at this
    simpa using this
   rw [hoe] at h2
   have hag : ∀ t ∈ o.looksAt ops, a.tmps.getD t undef = (fr ops a0 vs' i).tmps.getD t undef := fun t ht => by
    rw [hI.slot t, fr_slot hf hn]
    rw [slot_cut _ _ _ t i ops.size (by omega) (fun j hj1 hj2 hdj => ?_)]
    ·refine slot_congr _ _ _ _ _ _ _ (fun j hj hdj => ?_)
     obtain ⟨oj, hoj, hd⟩ := Option.bind_eq_some_iff.1 hdj
     have hjl := hpre j ((fits_pre hf ho hoj hd (.inl ht) (by omega)).1 hj)
     exact ⟨hjl, fun _ => (h1 j hjl).symm⟩
    ·rcases Nat.lt_or_ge i j with h | h
     ·obtain ⟨oj, hoj, hd⟩ := Option.bind_eq_some_iff.1 hdj
      rcases hb : listed.getD j false with _ | _
      ·rfl
      ·have := hI.closed j i hb ((fits_pre hf ho hoj hd (.inl ht) (by omega)).2 h)
       rw [hunf] at this; cases this
     ·obtain rfl : j = i := by omega
      exact hunf
   have he := eval_agree (fun cs b => fits_select hf i o cs b ho) hag
   have hw := wanted_agree hag
   have hsz2 : a.tmps.size = (fr ops a0 vs' i).tmps.size := by rw [hI.size, (fr_size a0 vs' i).1]
   have hcount : toCome (listed.setIfInBounds i true) ≤ fuel := by have := toCome_set hlt2 hun; omega
   unfold Chain at h2
   cases hg : G i with
   | none =>
    rw [hg] at h2
    obtain ⟨v, hy, _⟩ := h2
    have hya : Yields P ops o v a := hy.of_same he hw
    refine hya.wpOp ho ?_
    refine ih _ _ _ (fun k => if k = i then v else vs' k) (by simp [hsz]) hcount ?_
    exact hI.step hf hn hsz ho hun hpre h1 (hpx i vs' _ w v hg (hxc vs vs' _ w (fun k hk => (h1 k hk).symm) hI.x)) (fun _ => hy) (fun g h => by rw [hg] at h; cases h)
   | some g =>
    rw [hg] at h2
    obtain ⟨hwant, hp, _⟩ := h2
    have hp2 := hp vs' _ w (hxc vs vs' _ w (fun k hk => (h1 k hk).symm) hI.x) hunf hpre (fun j v _ hj => (h3 j v hj).2)
    unfold wpOp
    simp only [ho, hw, hwant, if_true]
    left
    unfold Oper.wp at hp2 ⊢
    rw [he]
    refine upon_move hsz2 hp2 (fun v w' hS => ?_)
    obtain ⟨hcv, hX⟩ := hS
    refine ih _ _ _ (fun k => if k = i then v else vs' k) (by simp [hsz]) hcount ?_
    exact hI.step hf hn hsz ho hun hpre h1 hX (fun h => by rw [hg] at h; cases h) (fun g' h => by rw [hg] at h; injection h with h; subst h; exact hcv)

theorem wp_region_chain {id : Nat} {Q : Exit → Act → World → Prop} {w0 : World} (G : Nat → Option (Value → Prop)) (X : (Nat → Value) → (Nat → Bool) → World → Prop) (hm : P.follows .mixedOrders = true) (n : Nat) (hf : regionFits ops n = true) (hn : a0.tmps.size = n)
  (hne : ∀ k g, G k = some g → ∃ v, g v) (hxc : ∀ vs vs' D w, (∀ k, D k = true → vs k = vs' k) → X vs D w → X vs' D w) (hpx : ∀ i vs D w v, G i = none → X vs D w → X (updV vs i v) (upd D i) w) (hx : X (fun _ => undef) (fun _ => false) w0.drew) (hc : Chain P ops G X (Q .normal) 0 ops.toList a0 []) : (Code.region id ops true).wp P Q a0 w0 :=
 wp_region_any hm (by
  have hsz : (Array.replicate ops.size false).size = ops.size := by simp
  have hrep : ∀ k, (Array.replicate ops.size false).getD k false = false := fun k => by
   simp only [Array.getD_eq_getD_getElem?, Array.getElem?_replicate]
   split <;> rfl
  refine wpAny_chain hne hf hn hxc hpx hc ops.size _ a0 _ (fun _ => undef) hsz ?_ ⟨(show (fun k => (Array.replicate ops.size false).getD k false) = fun _ => false from funext hrep) ▸ hx, rfl, rfl, fun t => ?_, fun i j h => ?_, fun k o _ h => ?_, fun k g hk h => ?_⟩
  ·unfold toCome; rw [Array.count_replicate]; simp
  ·have : ∀ k, slotAt ops a0 (fun _ => undef) (fun k => (Array.replicate ops.size false).getD k false) t k = a0.tmps.getD t undef := by
    intro k
    induction k with
    | zero => rfl
    | succ k ih =>
     unfold slotAt
     rw [if_neg (fun h => ?_), ih]
     have := h.1
     rw [hrep] at this
     cases this
   rw [this]
  ·rw [hrep] at h; cases h
  ·rw [hrep] at h; cases h
  ·rw [hrep] at h; cases h)

theorem Chain.step {i : Nat} {o : Oper} {rest : List Oper} {a a' : Act} {M : List (Nat × Value)} {v : Value} {i' : Nat} (hG : G i = none) (hw : Region.wanted o (yielded ops a.tmps) = true) (hi : i + 1 = i') (hy : ∀ w, (execOp a.eval o).run P w = .ok (.value v) w) (ha : a.put o.dst v = a')
  (hc : Chain P ops G X Qn i' rest a' M) : Chain P ops G X Qn i (o :: rest) a M := by
 subst ha; subst hi
 unfold Chain
 rw [hG]
 exact ⟨v, .inl ⟨hw, hy⟩, hc⟩
theorem Chain.make {M : List (Nat × Value)} {i : Nat} {o : Oper} {rest : List Oper} {a : Act} {i' : Nat} (C : Value → Prop) (hG : G i = some C) (hw : Region.wanted o (yielded ops a.tmps) = true) (hi : i + 1 = i')
  (hp : ∀ vs D w, X vs D w → D i = false → (∀ j, preB ops i j = true → D j = true) → (∀ j v, preB ops i j = true → M.lookup j = some v → vs j = v) → o.wp P a w (fun a' w' => ∃ v, a' = a.put o.dst v ∧ C v ∧ X (updV vs i v) (upd D i) w') (fun _ _ _ => False))
  (hc : ∀ v, C v → ∀ a', a.put o.dst v = a' → Chain P ops G X Qn i' rest a' ((i, v) :: M)) : Chain P ops G X Qn i (o :: rest) a M := by
 subst hi
 unfold Chain
 rw [hG]
 exact ⟨hw, hp, fun v hv => hc v hv _ rfl⟩
theorem Chain.end_ {i : Nat} {a : Act} {M : List (Nat × Value)} (h : ∀ vs D w, (∀ k, k < ops.size → D k = true) → X vs D w → (∀ j v, M.lookup j = some v → vs j = v) → Qn a w) : Chain P ops G X Qn i [] a M := h
end
end Go.Bar.Dv
