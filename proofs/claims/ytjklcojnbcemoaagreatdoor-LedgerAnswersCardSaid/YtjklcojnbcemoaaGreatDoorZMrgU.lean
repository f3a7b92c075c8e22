/-
  Layer 14: the plain theory of merging two rising runs in place by rotations (no program in sight; no condition).
-/
import Derived.Test.YtjklcojnbcemoaaGreatDoorZMrgS
import Derived.Test.YtjklcojnbcemoaaGreatDoorZSmp
import Derived.Test.YtjklcojnbcemoaaGreatDoorZLabM

namespace Go.Bar.Mrg
open Go.RowKit Go.Bar Go.Bar.Xor

/-- a sample, and where it came in -/
abbrev Tg := Sm × Nat
/-- by times, then as they came in -/
def lt2 (x y : Tg) : Prop := x.1.1 < y.1.1 ∨ (x.1.1 = y.1.1 ∧ x.2 < y.2)
theorem lt2_irr (x : Tg) : ¬ lt2 x x := fun h => by unfold lt2 at h; omega
theorem lt2_tr {x y z : Tg} (h : lt2 x y) (k : lt2 y z) : lt2 x z := by unfold lt2 at *; omega
theorem lt2_le {x y : Tg} (h : lt2 x y) : x.1.1 ≤ y.1.1 := by unfold lt2 at *; omega
theorem lt2_of {x y : Tg} (h : x.1.1 < y.1.1) : lt2 x y := .inl h
theorem lt2_tag {x y : Tg} (h : ¬ y.1.1 < x.1.1) (ht : x.2 < y.2) : lt2 x y := by unfold lt2; omega
theorem Sor.le {a b : Nat} {F : Nat → Tg} (h : Sor lt2 a b F) {i j : Nat} (hi : a ≤ i) (hij : i ≤ j) (hj : j < b) : (F i).1.1 ≤ (F j).1.1 := by
  rcases Nat.lt_or_ge i j with h1 | h1
  · exact lt2_le (h i j hi h1 hj)
  · obtain rfl : i = j := by omega
    exact Int.le_refl _
/-- all from a on, below m, came in ahead of those below b -/
def Tag (a m b : Nat) (F : Nat → Tg) : Prop := ∀ i j, a ≤ i → i < m → m ≤ j → j < b → (F i).2 < (F j).2

section
variable {α : Type} {x s m e y k : Nat} {F : Nat → Tg}
theorem rot_lo (h : ¬ (s ≤ k ∧ k < e)) (F : Nat → α) : rot s m e F k = F k := by unfold rot; rw [if_neg h]
theorem rot_1 (h1 : s ≤ k) (h2 : k < s + (e - m)) (hm : m ≤ e) (hs : s ≤ m) (F : Nat → α) : rot s m e F k = F (k - s + m) := by unfold rot; rw [if_pos (by omega), if_pos h2]
theorem rot_2 (h1 : s + (e - m) ≤ k) (h2 : k < e) (_hm : m ≤ e) (_hs : s ≤ m) (F : Nat → α) : rot s m e F k = F (k - (e - m)) := by unfold rot; rw [if_pos (by omega), if_neg (by omega)]
theorem rot_none (h : s = m ∨ m = e) (hs : s ≤ m) (hm : m ≤ e) (F : Nat → α) : rot s m e F = F := by
  funext k
  by_cases hk : s ≤ k ∧ k < e
  · rcases h with h | h
    · rw [rot_1 hk.1 (by omega) hm hs]; congr 1; omega
    · rw [rot_2 (by omega) hk.2 hm hs]; congr 1; omega
  · exact rot_lo hk F
theorem rot_fst (s m e : Nat) (F : Nat → Tg) : (fun k => (rot s m e F k).1) = rot s m e (fun k => (F k).1) := by
  funext k; unfold rot
  split
  · split <;> rfl
  · rfl
theorem swf_fst (i j : Nat) (F : Nat → Tg) : (fun k => (swf i j F k).1) = swf i j (fun k => (F k).1) := by
  funext k; unfold swf
  split
  · rfl
  · split <;> rfl
variable (hs : x ≤ s) (hsm : s ≤ m) (hm : m ≤ e) (hy : e ≤ y) (h1 : Sor lt2 x m F) (h2 : Sor lt2 m y F)
include hs hsm hm hy h1 h2
/-- ahead of the middle, behind it -/
theorem rot_cross (K1 : ∀ i j, s ≤ i → i < m → m ≤ j → j < e → lt2 (F j) (F i)) (K2 : ∀ i j, x ≤ i → i < s → e ≤ j → j < y → lt2 (F i) (F j)) :
    ∀ p q, x ≤ p → p < s + (e - m) → s + (e - m) ≤ q → q < y → lt2 (rot s m e F p) (rot s m e F q) := by
  intro p q hp hpm hq hqy
  have _hy := hy
  by_cases h3 : p < s
  · rw [rot_lo (by omega)]
    by_cases h4 : q < e
    · rw [rot_2 hq h4 hm hsm]; exact h1 _ _ hp (by omega) (by omega)
    · rw [rot_lo (by omega)]; exact K2 _ _ hp h3 (by omega) hqy
  · rw [rot_1 (by omega) hpm hm hsm]
    by_cases h4 : q < e
    · rw [rot_2 hq h4 hm hsm]; exact K1 _ _ (by omega) (by omega) (by omega) (by omega)
    · rw [rot_lo (by omega)]; exact h2 _ _ (by omega) (by omega) hqy
theorem rot_runs : Sor lt2 x s (rot s m e F) ∧ Sor lt2 s (s + (e - m)) (rot s m e F) ∧ Sor lt2 (s + (e - m)) e (rot s m e F) ∧ Sor lt2 e y (rot s m e F) := by
  refine ⟨fun i j hi hij hj => ?_, fun i j hi hij hj => ?_, fun i j hi hij hj => ?_, fun i j hi hij hj => ?_⟩
  · rw [rot_lo (by omega), rot_lo (by omega)]; exact h1 _ _ hi hij (by omega)
  · rw [rot_1 hi (by omega) hm hsm, rot_1 (by omega) hj hm hsm]; exact h2 _ _ (by omega) (by omega) (by omega)
  · rw [rot_2 hi (by omega) hm hsm, rot_2 (by omega) hj hm hsm]; exact h1 _ _ (by omega) (by omega) (by omega)
  · rw [rot_lo (by omega), rot_lo (by omega)]; exact h2 _ _ (by omega) hij hj
theorem rot_tags (ht : Tag x m y F) : Tag x s (s + (e - m)) (rot s m e F) ∧ Tag (s + (e - m)) e y (rot s m e F) := by
  have _h1 := h1
  have _h2 := h2
  refine ⟨fun i j hi him hj hjy => ?_, fun i j hi him hj hjy => ?_⟩
  · rw [rot_lo (by omega), rot_1 hj hjy hm hsm]; exact ht _ _ hi (by omega) (by omega) (by omega)
  · rw [rot_2 hi him hm hsm, rot_lo (by omega)]; exact ht _ _ (by omega) (by omega) (by omega) hjy
theorem rot_left (K : ∀ i j, x ≤ i → i < s → m ≤ j → j < e → lt2 (F i) (F j)) : Sor lt2 x (s + (e - m)) (rot s m e F) := by
  obtain ⟨a1, a2, _, _⟩ := rot_runs hs hsm hm hy h1 h2
  refine Sor.join a1 a2 fun i j hi him hj hjy => ?_
  rw [rot_lo (by omega), rot_1 hj hjy hm hsm]
  exact K _ _ hi him (by omega) (by omega)
theorem rot_right (K : ∀ i j, s ≤ i → i < m → e ≤ j → j < y → lt2 (F i) (F j)) : Sor lt2 (s + (e - m)) y (rot s m e F) := by
  obtain ⟨_, _, a3, a4⟩ := rot_runs hs hsm hm hy h1 h2
  refine Sor.join a3 a4 fun i j hi him hj hjy => ?_
  rw [rot_2 hi him hm hsm, rot_lo (by omega)]
  exact K _ _ (by omega) (by omega) hj hjy
end

theorem rot_at {α : Type} {j i : Nat} (hji : j ≤ i) (f : Nat → α) : rot j i (i + 1) f j = f i := by
  unfold rot
  rw [if_pos (by omega), if_pos (by omega)]; congr 1; omega
/-- an element moved one place on -/
theorem rot_down {α : Type} {j i : Nat} (h0 : 0 < j) (hji : j ≤ i) (f : Nat → α) : swf j (j - 1) (rot j i (i + 1) f) = rot (j - 1) i (i + 1) f := by
  funext k
  unfold swf
  by_cases h1 : k = j
  · rw [if_pos h1, rot_lo (by omega)]; unfold rot
    rw [if_pos (by omega), if_neg (by omega)]; congr 1; omega
  · rw [if_neg h1]
    by_cases h2 : k = j - 1
    · rw [if_pos h2, h2, rot_at hji, rot_at (by omega)]
    · rw [if_neg h2]; unfold rot
      by_cases h3 : j ≤ k ∧ k < i + 1
      · rw [if_pos h3, if_neg (by omega), if_pos (by omega), if_neg (by omega)]
      · rw [if_neg h3, if_neg (by omega)]
theorem rot_up {α : Type} {x k : Nat} (h : x ≤ k) (f : Nat → α) : swf k (k + 1) (rot x (x + 1) (k + 1) f) = rot x (x + 1) (k + 2) f := by
  funext q
  unfold swf
  by_cases h1 : q = k
  · rw [if_pos h1, rot_lo (by omega)]; unfold rot
    rw [if_pos (by omega), if_pos (by omega)]; congr 1; omega
  · rw [if_neg h1]
    by_cases h2 : q = k + 1
    · rw [if_pos h2]; unfold rot
      rw [if_pos (by omega), if_neg (by omega), if_pos (by omega), if_neg (by omega)]; congr 1; omega
    · rw [if_neg h2]; unfold rot
      by_cases h3 : x ≤ q ∧ q < k + 1
      · rw [if_pos h3]
        by_cases h4 : q < x + (k + 1 - (x + 1))
        · rw [if_pos h4, if_pos (by omega), if_pos (by omega)]
        · omega
      · rw [if_neg h3, if_neg (by omega)]

/-- two halves, each in order -/
theorem halves {x md y : Nat} {G H I : Nat → Tg} (hx : x ≤ md) (hy : md ≤ y) (hc : ∀ p q, x ≤ p → p < md → md ≤ q → q < y → lt2 (G p) (G q)) (p1 : PermOn x md G H) (s1 : Sor lt2 x md H) (p2 : PermOn md y H I) (s2 : Sor lt2 md y I) :
    PermOn x y G I ∧ Sor lt2 x y I := by
  refine ⟨(p1.mono (Nat.le_refl _) hy).trans (p2.mono hx (Nat.le_refl _)), Sor.join (s1.congr fun k _ h2 => p2.out (by omega)) s2 fun i j hi him hj hjy => ?_⟩
  rw [p2.out (by omega)]
  refine p2.all (P := fun z => lt2 (H i) z) (fun q hq hqy => ?_) j hj hjy
  rw [p1.out (k := q) (by omega)]
  exact p1.all (P := fun z => lt2 z (G q)) (fun p hp hpm => hc p q hp hpm hq hqy) i hi him

/-- the one-element left run -/
theorem left_one {x y i : Nat} {F : Nat → Tg} (hi1 : x + 1 ≤ i) (hi2 : i ≤ y) (h1 : Sor lt2 x (x + 1) F) (h2 : Sor lt2 (x + 1) y F) (ht : Tag x (x + 1) y F) (a : ∀ k, x + 1 ≤ k → k < i → (F k).1.1 < (F x).1.1) (b : ∀ k, i ≤ k → k < y → ¬ (F k).1.1 < (F x).1.1) :
    PermOn x y F (rot x (x + 1) i F) ∧ Sor lt2 x y (rot x (x + 1) i F) := by
  refine ⟨(PermOn.rot (by omega) hi1 F).mono (Nat.le_refl _) hi2, ?_⟩
  have K1 : ∀ p q, x ≤ p → p < x + 1 → x + 1 ≤ q → q < i → lt2 (F q) (F p) := fun p q hp hpx hq hqi => by
    obtain rfl : p = x := by omega
    exact lt2_of (a q hq hqi)
  have K3 : ∀ p q, x ≤ p → p < x + 1 → i ≤ q → q < y → lt2 (F p) (F q) := fun p q hp hpx hq hqy => by
    obtain rfl : p = x := by omega
    exact lt2_tag (b q hq hqy) (ht _ _ (Nat.le_refl _) (by omega) (by omega) hqy)
  exact Sor.join (rot_left (Nat.le_refl _) (by omega) hi1 hi2 h1 h2 (fun _ _ _ _ _ _ => by omega)) (rot_right (Nat.le_refl _) (by omega) hi1 hi2 h1 h2 K3)
    (fun p q hp hpm hq hqy => rot_cross (Nat.le_refl _) (by omega) hi1 hi2 h1 h2 K1 (fun _ _ _ _ _ _ => by omega) p q hp hpm hq hqy)
/-- the one-element right run -/
theorem right_one {x m i : Nat} {F : Nat → Tg} (hi1 : x ≤ i) (hi2 : i ≤ m) (h1 : Sor lt2 x m F) (h2 : Sor lt2 m (m + 1) F) (ht : Tag x m (m + 1) F) (a : ∀ k, x ≤ k → k < i → ¬ (F m).1.1 < (F k).1.1) (b : ∀ k, i ≤ k → k < m → (F m).1.1 < (F k).1.1) :
    PermOn x (m + 1) F (rot i m (m + 1) F) ∧ Sor lt2 x (m + 1) (rot i m (m + 1) F) := by
  refine ⟨(PermOn.rot hi2 (by omega) F).mono hi1 (Nat.le_refl _), ?_⟩
  have K1 : ∀ p q, i ≤ p → p < m → m ≤ q → q < m + 1 → lt2 (F q) (F p) := fun p q hp hpx hq hqi => by
    obtain rfl : q = m := by omega
    exact lt2_of (b p hp hpx)
  have K4 : ∀ p q, x ≤ p → p < i → m ≤ q → q < m + 1 → lt2 (F p) (F q) := fun p q hp hpx hq hqy => by
    obtain rfl : q = m := by omega
    exact lt2_tag (a p hp hpx) (ht _ _ hp (by omega) (Nat.le_refl _) (by omega))
  exact Sor.join (rot_left hi1 hi2 (by omega) (Nat.le_refl _) h1 h2 K4) (rot_right hi1 hi2 (by omega) (Nat.le_refl _) h1 h2 (fun _ _ _ _ _ _ => by omega))
    (fun p q hp hpm hq hqy => rot_cross hi1 hi2 (by omega) (Nat.le_refl _) h1 h2 K1 (fun _ _ _ _ _ _ => by omega) p q hp hpm hq hqy)

/-- where the cut of the symmetric search lies -/
structure Cut (x m y nn lo hi s r : Nat) (F : Nat → Tg) : Prop where
  cl : lo ≤ s
  sr : s ≤ r
  ch : r ≤ hi
  a : ∀ k, lo ≤ k → k < s → ¬ (F (nn - 1 - k)).1.1 < (F k).1.1
  b : ∀ k, r ≤ k → k < hi → (F (nn - 1 - k)).1.1 < (F k).1.1
/-- the bounds of the symmetric search -/
structure Bnd (x m y md lo hi : Nat) : Prop where
  lohi : lo ≤ hi
  xlo : x ≤ lo
  him : hi ≤ m
  a : ∀ k, lo ≤ k → k < hi → m ≤ md + m - 1 - k ∧ md + m - 1 - k < y
  top : hi = md ∨ hi = m
  bot : lo = md + m - y ∧ y ≤ md + m ∨ lo = x ∧ m ≤ md
theorem Bnd.great {x m y md : Nat} (hx : x < m) (hy : m < y) (hmd : md = (x + y) / 2) (h : md < m) : Bnd x m y md (md + m - y) md :=
  ⟨by omega, by omega, by omega, fun k h1 h2 => by omega, .inl rfl, .inl ⟨rfl, by omega⟩⟩
theorem Bnd.small {x m y md : Nat} (hx : x < m) (hy : m < y) (hmd : md = (x + y) / 2) (h : ¬ md < m) : Bnd x m y md x m :=
  ⟨by omega, by omega, by omega, fun k h1 h2 => by omega, .inr rfl, .inr ⟨rfl, by omega⟩⟩
section
variable {x m y md lo hi s r : Nat} {F : Nat → Tg}
theorem Cut.step (B : Bnd x m y md lo hi) (h1 : Sor lt2 x m F) (h2 : Sor lt2 m y F) (h : Cut x m y (md + m) lo hi s r F) (_hsr : s < r) {c : Nat} (hc : s ≤ c) (hcr : c < r) :
    (¬ (F (md + m - 1 - c)).1.1 < (F c).1.1 → Cut x m y (md + m) lo hi (c + 1) r F) ∧ ((F (md + m - 1 - c)).1.1 < (F c).1.1 → Cut x m y (md + m) lo hi s c F) := by
  have g1 := h.cl; have g2 := h.ch; have g3 := B.xlo; have g4 := B.him
  have hcc := B.a c (by omega) (by omega)
  constructor
  · intro hn
    refine ⟨by omega, by omega, h.ch, fun k k1 k2 => ?_, h.b⟩
    have hk := B.a k k1 (by omega)
    have l1 := h1.le (i := k) (j := c) (by omega) (by omega) (by omega)
    have l2 := h2.le (i := md + m - 1 - c) (j := md + m - 1 - k) hcc.1 (by omega) hk.2
    omega
  · intro hp
    refine ⟨h.cl, hc, by omega, h.a, fun k k1 k2 => ?_⟩
    have hk := B.a k (by omega) k2
    have l1 := h1.le (i := c) (j := k) (by omega) k1 (by omega)
    have l2 := h2.le (i := md + m - 1 - k) (j := md + m - 1 - c) hk.1 (by omega) hcc.2
    omega
theorem Cut.start (B : Bnd x m y md lo hi) : Cut x m y (md + m) lo hi lo hi F := ⟨Nat.le_refl _, B.lohi, Nat.le_refl _, fun _ _ _ => by omega, fun _ _ _ => by omega⟩
/-- what the search has found -/
theorem Cut.found (hx : x < m) (hy : m < y) (hmd : md = (x + y) / 2) (B : Bnd x m y md lo hi) (h1 : Sor lt2 x m F) (h2 : Sor lt2 m y F) (ht : Tag x m y F) (h : Cut x m y (md + m) lo hi s s F) :
    x ≤ s ∧ s ≤ m ∧ s ≤ md ∧ m ≤ md + m - s ∧ md + m - s ≤ y ∧ s + (md + m - s - m) = md ∧ (∀ i j, s ≤ i → i < m → m ≤ j → j < md + m - s → lt2 (F j) (F i)) ∧ (∀ i j, x ≤ i → i < s → md + m - s ≤ j → j < y → lt2 (F i) (F j)) := by
  have g1 := h.cl; have g2 := h.ch; have g3 := B.xlo; have g4 := B.him; have g5 := B.top; have g6 := B.bot; have g7 := B.lohi
  have hsmd : s ≤ md := by
    by_cases hh : s < hi
    · have := (B.a s g1 hh).1
      omega
    · by_cases hl : lo < hi
      · have := (B.a (hi - 1) (by omega) (by omega)).1
        omega
      · omega
  have hey : md + m - s ≤ y := by
    by_cases hh : lo < s
    · have := (B.a (s - 1) (by omega) (by omega)).2
      omega
    · omega
  refine ⟨by omega, by omega, hsmd, by omega, hey, by omega, fun i j i1 i2 j1 j2 => ?_, fun i j i1 i2 j1 j2 => ?_⟩
  · have hs : s < hi := by omega
    have hb := h.b s (Nat.le_refl _) hs
    have hk := B.a s g1 hs
    have l1 := h1.le (i := s) (j := i) (by omega) i1 i2
    have l2 := h2.le (i := j) (j := md + m - 1 - s) j1 (by omega) hk.2
    exact lt2_of (by omega)
  · have hs : lo < s := by omega
    have ha := h.a (s - 1) (by omega) (by omega)
    have hk := B.a (s - 1) (by omega) (by omega)
    have l1 := h1.le (i := i) (j := s - 1) i1 (by omega) (by omega)
    have l2 := h2.le (i := md + m - 1 - (s - 1)) (j := j) hk.1 (by omega) j2
    exact lt2_tag (by omega) (ht _ _ i1 (by omega) (by omega) j2)
end

/-- the row behind the rotation -/
structure Halved (x s m e md y : Nat) (F G : Nat → Tg) : Prop where
  perm : PermOn x y F G
  cross : ∀ p q, x ≤ p → p < md → md ≤ q → q < y → lt2 (G p) (G q)
  a1 : Sor lt2 x s G
  a2 : Sor lt2 s md G
  a3 : Sor lt2 md e G
  a4 : Sor lt2 e y G
  t1 : Tag x s md G
  t2 : Tag md e y G
  n1 : ¬ (x < s ∧ s < md) → Sor lt2 x md G
  n2 : ¬ (md < e ∧ e < y) → Sor lt2 md y G
  n0 : ¬ (s < m ∧ m < e) → G = F
theorem halved {x s m e md y : Nat} {F : Nat → Tg} (hs : x ≤ s) (hsm : s ≤ m) (hm : m ≤ e) (hy : e ≤ y) (hmd : s + (e - m) = md) (h1 : Sor lt2 x m F) (h2 : Sor lt2 m y F) (ht : Tag x m y F)
    (K1 : ∀ i j, s ≤ i → i < m → m ≤ j → j < e → lt2 (F j) (F i)) (K2 : ∀ i j, x ≤ i → i < s → e ≤ j → j < y → lt2 (F i) (F j)) : Halved x s m e md y F (rot s m e F) := by
  have r := rot_runs hs hsm hm hy h1 h2
  have g := rot_tags hs hsm hm hy h1 h2 ht
  have c := rot_cross hs hsm hm hy h1 h2 K1 K2
  have l := fun K => rot_left hs hsm hm hy h1 h2 K
  have q := fun K => rot_right hs hsm hm hy h1 h2 K
  rw [hmd] at r g c l q
  refine ⟨(PermOn.rot hsm hm F).mono hs hy, c, r.1, r.2.1, r.2.2.1, r.2.2.2, g.1, g.2, fun hn => l fun i j _ _ _ _ => by omega, fun hn => q fun i j _ _ _ _ => by omega, fun hn => rot_none (by omega) hsm hm F⟩
/-- behind the first half's merge -/
theorem Halved.second {x s m e md y : Nat} {F G G1 : Nat → Tg} (h : Halved x s m e md y F G) (p1 : PermOn x md G G1) (hme : md ≤ e) (_hey : e ≤ y) : Sor lt2 md e G1 ∧ Sor lt2 e y G1 ∧ Tag md e y G1 ∧ (¬ (md < e ∧ e < y) → Sor lt2 md y G1) := by
  have e1 : ∀ k, md ≤ k → G1 k = G k := fun k hk => p1.out (by omega)
  refine ⟨h.a3.congr fun k h1 _ => e1 k h1, h.a4.congr fun k h1 _ => e1 k (by omega), fun i j h1 h2 h3 h4 => ?_, fun hn => (h.n2 hn).congr fun k h1 _ => e1 k h1⟩
  rw [e1 i h1, e1 j (by omega)]
  exact h.t2 i j h1 h2 h3 h4
theorem Halved.whole {x s m e md y : Nat} {F G G1 G2 : Nat → Tg} (h : Halved x s m e md y F G) (hx : x ≤ md) (hy : md ≤ y) (p1 : PermOn x md G G1) (s1 : Sor lt2 x md G1) (p2 : PermOn md y G1 G2) (s2 : Sor lt2 md y G2) : PermOn x y F G2 ∧ Sor lt2 x y G2 := by
  obtain ⟨q1, q2⟩ := halves hx hy h.cross p1 s1 p2 s2
  exact ⟨h.perm.trans q1, q2⟩
end Go.Bar.Mrg

/-
  Layer 14: plain laws of lists of samples by rising times; what a stable sort and a compaction come to.
-/
namespace Go.Bar.Mrg
open Go.RowKit Go.Bar Go.Bar.Xor

/-- by rising times -/
def Ris (l : List Sm) : Prop := l.Pairwise (fun a b => a.1 < b.1)
/-- the sample of a time -/
def lk (l : List Sm) (t : Int) : Option Sm := l.find? (fun z => z.1 == t)
theorem lk_nil (t : Int) : lk [] t = none := rfl
theorem lk_cons (x : Sm) (l : List Sm) (t : Int) : lk (x :: l) t = if x.1 = t then some x else lk l t := by
  unfold lk
  rw [List.find?_cons]
  by_cases h : x.1 = t
  · rw [if_pos h, show (x.1 == t) = true from beq_iff_eq.2 h]
  · rw [if_neg h, show (x.1 == t) = false from beq_eq_false_iff_ne.2 h]
theorem lk_append (l m : List Sm) (t : Int) : lk (l ++ m) t = (lk l t).or (lk m t) := by
  induction l with
  | nil => rw [List.nil_append, lk_nil, Option.none_or]
  | cons x l ih =>
    rw [List.cons_append, lk_cons, lk_cons, ih]
    split <;> rfl
theorem lk_some {l : List Sm} {t : Int} {x : Sm} (h : lk l t = some x) : x ∈ l ∧ x.1 = t := by
  unfold lk at h
  exact ⟨List.mem_of_find?_eq_some h, by have := List.find?_some h; simpa using this⟩
theorem lk_none {l : List Sm} {t : Int} : lk l t = none ↔ ∀ x ∈ l, x.1 ≠ t := by
  unfold lk
  rw [List.find?_eq_none]
  simp
theorem Ris.mem {l : List Sm} (h : Ris l) {x : Sm} (hx : x ∈ l) : lk l x.1 = some x := by
  induction l with
  | nil => simp at hx
  | cons y l ih =>
    obtain ⟨h1, h2⟩ := List.pairwise_cons.1 h
    rw [lk_cons]
    rcases List.mem_cons.1 hx with rfl | hx
    · rw [if_pos rfl]
    · rw [if_neg (by have := h1 x hx; omega), ih h2 hx]
theorem ris_ext {a b : List Sm} (ha : Ris a) (hb : Ris b) (h : ∀ t, lk a t = lk b t) : a = b := by
  induction a generalizing b with
  | nil =>
    cases b with
    | nil => rfl
    | cons y b => have := h y.1; rw [lk_nil, lk_cons, if_pos rfl] at this; cases this
  | cons x a ih =>
    cases b with
    | nil => have := h x.1; rw [lk_nil, lk_cons, if_pos rfl] at this; cases this
    | cons y b =>
      obtain ⟨a1, a2⟩ := List.pairwise_cons.1 ha
      obtain ⟨b1, b2⟩ := List.pairwise_cons.1 hb
      have hx := h x.1
      have hy := h y.1
      rw [lk_cons, if_pos rfl, lk_cons] at hx
      rw [lk_cons, lk_cons, if_pos rfl] at hy
      have hxy : x = y := by
        by_cases e : y.1 = x.1
        · rw [if_pos e] at hx; injection hx
        · rw [if_neg e] at hx
          rw [if_neg (fun e' => e e'.symm)] at hy
          have m1 := b1 x (lk_some hx.symm).1
          have m2 := a1 y (lk_some hy).1
          omega
      subst hxy
      rw [ih a2 b2 fun t => ?_]
      have ht := h t
      rw [lk_cons, lk_cons] at ht
      by_cases e : x.1 = t
      · rw [lk_none.2 fun z hz => by have := a1 z hz; omega, lk_none.2 fun z hz => by have := b1 z hz; omega]
      · rwa [if_neg e, if_neg e] at ht

/-- a sample more; one of its time that is there stays -/
def putS : List Sm → Sm → List Sm
  | [], s => [s]
  | x :: r, s => if x.1 = s.1 then x :: r else if s.1 < x.1 then s :: x :: r else x :: putS r s
theorem putS_mem {l : List Sm} {s x : Sm} (h : x ∈ putS l s) : x ∈ l ∨ x = s := by
  induction l with
  | nil => exact .inr (List.mem_singleton.1 h)
  | cons y r ih =>
    unfold putS at h
    split at h
    · exact .inl h
    · split at h
      · rcases List.mem_cons.1 h with h | h
        · exact .inr h
        · exact .inl h
      · rcases List.mem_cons.1 h with h | h
        · exact .inl (h ▸ List.mem_cons_self)
        · rcases ih h with h | h
          · exact .inl (List.mem_cons_of_mem _ h)
          · exact .inr h
theorem Ris.put {l : List Sm} (h : Ris l) (s : Sm) : Ris (putS l s) := by
  induction l with
  | nil => exact List.pairwise_singleton _ _
  | cons x r ih =>
    obtain ⟨h1, h2⟩ := List.pairwise_cons.1 h
    unfold putS
    split
    · exact h
    · split
      · rename_i hlt
        refine List.pairwise_cons.2 ⟨fun z hz => ?_, h⟩
        rcases List.mem_cons.1 hz with rfl | hz
        · exact hlt
        · have := h1 z hz; omega
      · refine List.pairwise_cons.2 ⟨fun z hz => ?_, ih h2⟩
        rcases putS_mem hz with hz | rfl
        · exact h1 z hz
        · omega
theorem lk_put {l : List Sm} (h : Ris l) (s : Sm) (t : Int) : lk (putS l s) t = (lk l t).or (lk [s] t) := by
  induction l with
  | nil => rw [lk_nil, Option.none_or]; rfl
  | cons x r ih =>
    obtain ⟨h1, h2⟩ := List.pairwise_cons.1 h
    unfold putS
    split
    · rename_i he
      rw [lk_cons, lk_cons, lk_nil]
      by_cases e : x.1 = t
      · rw [if_pos e]; rfl
      · rw [if_neg e, if_neg (by omega), Option.or_none]
    · split
      · rename_i hlt
        rw [lk_cons, lk_cons (l := []), lk_nil]
        by_cases e : s.1 = t
        · rw [if_pos e, lk_none.2 fun z hz => ?_, Option.none_or, if_pos e]
          rcases List.mem_cons.1 hz with rfl | hz
          · omega
          · have := h1 z hz; omega
        · rw [if_neg e, if_neg e, Option.or_none]
      · rw [lk_cons, ih h2, lk_cons (x := x)]
        by_cases e : x.1 = t
        · rw [if_pos e, if_pos e]; rfl
        · rw [if_neg e, if_neg e]
def putAll (l xs : List Sm) : List Sm := xs.foldl putS l
theorem Ris.putAll {l : List Sm} (h : Ris l) (xs : List Sm) : Ris (putAll l xs) := by
  induction xs generalizing l with
  | nil => exact h
  | cons x xs ih => exact ih (h.put x)
theorem lk_putAll {l : List Sm} (h : Ris l) (xs : List Sm) (t : Int) : lk (putAll l xs) t = (lk l t).or (lk xs t) := by
  induction xs generalizing l with
  | nil => rw [lk_nil, Option.or_none]; rfl
  | cons x xs ih =>
    show lk (Mrg.putAll (putS l x) xs) t = _
    rw [ih (h.put x), lk_put h, Option.or_assoc, ← lk_append]
    rfl
theorem putAll_append (l xs ys : List Sm) : putAll l (xs ++ ys) = putAll (putAll l xs) ys := List.foldl_append
/-- a list by rising times is its own -/
theorem putAll_ris {l : List Sm} (h : Ris l) : putAll [] l = l := by
  refine ris_ext (Ris.putAll List.Pairwise.nil l) h fun t => ?_
  rw [lk_putAll List.Pairwise.nil, lk_nil, Option.none_or]
theorem ris_nil : Ris [] := List.Pairwise.nil

/-! ### rows -/
theorem lk_row_succ (f : Nat → Sm) (n : Nat) (t : Int) : lk (row (n + 1) f) t = (lk (row n f) t).or (lk [f n] t) := by
  unfold row
  rw [List.range_succ, List.map_append, lk_append]
  rfl
theorem lk_row {f : Nat → Sm} {t : Int} : ∀ {n i : Nat}, i < n → (f i).1 = t → (∀ j, j < i → (f j).1 ≠ t) → lk (row n f) t = some (f i)
  | 0, i, h, _, _ => by omega
  | n + 1, i, h, hi, hj => by
    rw [lk_row_succ]
    by_cases e : i = n
    · subst e
      rw [lk_none.2 fun z hz => ?_, Option.none_or, lk_cons, if_pos hi]
      unfold row at hz
      obtain ⟨k, hk, rfl⟩ := List.mem_map.1 hz
      exact hj k (List.mem_range.1 hk)
    · rw [lk_row (by omega) hi hj]; rfl
theorem row_mem {f : Nat → Sm} {n : Nat} {z : Sm} : z ∈ row n f ↔ ∃ k, k < n ∧ f k = z := by
  unfold row
  rw [List.mem_map]
  constructor
  · rintro ⟨k, hk, rfl⟩; exact ⟨k, List.mem_range.1 hk, rfl⟩
  · rintro ⟨k, hk, rfl⟩; exact ⟨k, List.mem_range.2 hk, rfl⟩
theorem row_first {f : Nat → Sm} {n : Nat} {t : Int} {x : Sm} (h : lk (row n f) t = some x) : ∃ i, i < n ∧ f i = x ∧ (f i).1 = t ∧ ∀ j, j < i → (f j).1 ≠ t := by
  induction n with
  | zero => cases h
  | succ n ih =>
    rw [lk_row_succ] at h
    rcases hh : lk (row n f) t with _ | y
    · rw [hh, Option.none_or, lk_cons, lk_nil] at h
      by_cases e : (f n).1 = t
      · rw [if_pos e] at h
        injection h with h
        refine ⟨n, by omega, h, e, fun j hj => ?_⟩
        exact lk_none.1 hh _ (row_mem.2 ⟨j, hj, rfl⟩)
      · rw [if_neg e] at h; cases h
    · rw [hh] at h
      have : some y = some x := h
      rw [this] at hh
      obtain ⟨i, h1, h2, h3, h4⟩ := ih hh
      exact ⟨i, by omega, h2, h3, h4⟩
/-- a stable sort keeps the first of each time -/
theorem lk_stable {f : Nat → Sm} {n : Nat} {G : Nat → Tg} (p : PermOn 0 n (fun k => (f k, k)) G) (s : Sor lt2 0 n G) (t : Int) : lk (row n (fun k => (G k).1)) t = lk (row n f) t := by
  obtain ⟨σ, τ, h1, h2, rfl⟩ := p
  rcases hl : lk (row n f) t with _ | x
  · rw [lk_none]
    intro z hz
    obtain ⟨k, hk, rfl⟩ := row_mem.1 hz
    have := perm_in h1 h2 (k := k) ⟨Nat.zero_le _, hk⟩
    exact lk_none.1 hl _ (row_mem.2 ⟨σ k, this.2, rfl⟩)
  · obtain ⟨i, hi, rfl, ht, hj⟩ := row_first hl
    have hk : τ i < n := by
      by_cases hh : τ i < n
      · exact hh
      · have := h2 (τ i) (by omega)
        rw [(h1 i).1] at this
        omega
    have e : f (σ (τ i)) = f i := by rw [(h1 i).1]
    have hrow : lk (row n (fun k => f (σ k))) t = some (f (σ (τ i))) := lk_row (f := fun k => f (σ k)) (i := τ i) hk (by show (f (σ (τ i))).1 = t; rw [e]; exact ht) (fun j hjk => ?_)
    · rw [e] at hrow; exact hrow
    intro hh
    have hs := s j (τ i) (Nat.zero_le _) hjk hk
    unfold lt2 at hs
    have hh : (f (σ j)).1 = t := hh
    have e2 : (f (σ (τ i))).1 = t := by rw [(h1 i).1]; exact ht
    have hs : (f (σ j)).1 < (f (σ (τ i))).1 ∨ (f (σ j)).1 = (f (σ (τ i))).1 ∧ σ j < σ (τ i) := hs
    rw [(h1 i).1] at hs e2
    rcases hs with hs | ⟨_, hs⟩
    · omega
    · exact hj (σ j) hs hh

/-- several lists as one -/
def smp (ls : List (List Sm)) : List Sm := putAll [] ls.flatten
theorem smp_ris (ls : List (List Sm)) : Ris (smp ls) := ris_nil.putAll _
theorem lk_smp (ls : List (List Sm)) (t : Int) : lk (smp ls) t = lk ls.flatten t := by unfold smp; rw [lk_putAll ris_nil, lk_nil, Option.none_or]
theorem smp_mem {ls : List (List Sm)} {x : Sm} (h : x ∈ smp ls) : ∃ l ∈ ls, x ∈ l := by
  have h1 := (smp_ris ls).mem h
  rw [lk_smp] at h1
  exact List.mem_flatten.1 (lk_some h1).1
end Go.Bar.Mrg

/-
  Layer 14: plain theory of tables of rows: events in order, groups; several tables as one.
-/
namespace Go.Bar.Mrg
open Go.RowKit Go.Bar Go.Bar.Xor Go.Bar.Lab

/-- a row: its labels, its samples -/
abbrev Row := List Pr × List Sm
/-- a row of a table -/
abbrev Ev := Row × Nat
/-- by labels, then tables -/
def ltE (x y : Ev) : Prop := cmpL x.1.1 y.1.1 < 0 ∨ cmpL x.1.1 y.1.1 = 0 ∧ x.2 < y.2
theorem cmpL_self (a : List Pr) : cmpL a a = 0 := cmpL_zero.2 rfl
theorem cmpL_lt_trans {a b c : List Pr} (h : cmpL a b < 0) (k : cmpL b c < 0) : cmpL a c < 0 := by
  have h1 := cmpL_trans (a := a) (b := b) (c := c) (by omega) (by omega)
  by_cases e : cmpL a c = 0
  · have e2 := cmpL_zero.1 e
    subst e2
    have := cmpL_neg a b
    omega
  · omega
theorem ltE_irr (x : Ev) : ¬ ltE x x := fun h => by unfold ltE at h; rw [cmpL_self] at h; omega
theorem ltE_tr {x y z : Ev} (h : ltE x y) (k : ltE y z) : ltE x z := by
  unfold ltE at *
  rcases h with h | ⟨h1, h2⟩
  · rcases k with k | ⟨k1, k2⟩
    · exact .inl (cmpL_lt_trans h k)
    · rw [← cmpL_zero.1 k1]; exact .inl h
  · rw [cmpL_zero.1 h1]
    rcases k with k | ⟨k1, k2⟩
    · exact .inl k
    · exact .inr ⟨k1, by omega⟩
/-- the table that they come to: complete rows, then the labels and the parts under way -/
structure Grp where
  done : List Row
  cur : Option (List Pr × List (List Sm))
def Grp.flush (g : Grp) : List Row := match g.cur with
  | none => g.done
  | some (L, ps) => g.done ++ [(L, smp ps)]
def Grp.add (g : Grp) (r : Row) : Grp := match g.cur with
  | none => ⟨g.done, some (r.1, [r.2])⟩
  | some (L, ps) => if L = r.1 then ⟨g.done, some (L, ps ++ [r.2])⟩ else ⟨g.done ++ [(L, smp ps)], some (r.1, [r.2])⟩
def grpOf (S : List Ev) : Grp := S.foldl (fun g x => g.add x.1) ⟨[], none⟩
theorem grpOf_snoc (S : List Ev) (x : Ev) : grpOf (S ++ [x]) = (grpOf S).add x.1 := by unfold grpOf; rw [List.foldl_append]; rfl
def grp (S : List Ev) : List Row := (grpOf S).flush
/-- the events of tables -/
def evsK : Nat → List (List Row) → List Ev
  | _, [] => []
  | k, t :: r => t.map (fun x => (x, k)) ++ evsK (k + 1) r
def evs (ls : List (List Row)) : List Ev := evsK 0 ls

theorem revRec {α : Type} {motive : List α → Prop} (nil : motive []) (append_singleton : ∀ (l : List α) (a : α), motive l → motive (l ++ [a])) (l : List α) : motive l := by
  have h : ∀ l : List α, motive l.reverse := fun l => by
    induction l with
    | nil => exact nil
    | cons x r ih => rw [List.reverse_cons]; exact append_singleton _ _ ih
  have := h l.reverse
  rwa [List.reverse_reverse] at this
/-- rows by rising labels -/
def Rls (l : List Row) : Prop := l.Pairwise (fun a b => cmpL a.1 b.1 < 0)
/-- the samples of labels -/
def rk (l : List Row) (L : List Pr) : Option (List Sm) := (l.find? (fun r => decide (r.1 = L))).map (·.2)
theorem rk_nil (L : List Pr) : rk [] L = none := rfl
theorem rk_cons (r : Row) (l : List Row) (L : List Pr) : rk (r :: l) L = if r.1 = L then some r.2 else rk l L := by
  unfold rk
  rw [List.find?_cons]
  by_cases h : r.1 = L
  · rw [if_pos h, decide_eq_true h]; rfl
  · rw [if_neg h, decide_eq_false h]
theorem rk_none {l : List Row} {L : List Pr} : rk l L = none ↔ ∀ r ∈ l, r.1 ≠ L := by
  unfold rk
  rw [Option.map_eq_none_iff, List.find?_eq_none]
  simp
theorem rk_append (l m : List Row) (L : List Pr) : rk (l ++ m) L = (rk l L).or (rk m L) := by
  induction l with
  | nil => rw [List.nil_append, rk_nil, Option.none_or]
  | cons x l ih =>
    rw [List.cons_append, rk_cons, rk_cons, ih]
    split <;> rfl
theorem rk_some {l : List Row} {L : List Pr} {s : List Sm} (h : rk l L = some s) : (L, s) ∈ l := by
  unfold rk at h
  rcases hf : l.find? (fun r => decide (r.1 = L)) with _ | r
  · rw [hf] at h; cases h
  · rw [hf] at h
    injection h with h
    have h1 := List.mem_of_find?_eq_some hf
    have h2 := List.find?_some hf
    have h2 : r.1 = L := of_decide_eq_true h2
    obtain ⟨r1, r2⟩ := r
    subst h; subst h2
    exact h1
theorem rls_ext {a b : List Row} (ha : Rls a) (hb : Rls b) (h : ∀ L, rk a L = rk b L) : a = b := by
  induction a generalizing b with
  | nil =>
    cases b with
    | nil => rfl
    | cons y b => have := h y.1; rw [rk_nil, rk_cons, if_pos rfl] at this; cases this
  | cons x a ih =>
    cases b with
    | nil => have := h x.1; rw [rk_nil, rk_cons, if_pos rfl] at this; cases this
    | cons y b =>
      obtain ⟨a1, a2⟩ := List.pairwise_cons.1 ha
      obtain ⟨b1, b2⟩ := List.pairwise_cons.1 hb
      have hx := h x.1
      have hy := h y.1
      rw [rk_cons, if_pos rfl, rk_cons] at hx
      rw [rk_cons, rk_cons, if_pos rfl] at hy
      have hxy : x = y := by
        by_cases e : y.1 = x.1
        · rw [if_pos e] at hx
          injection hx with hx
          exact Prod.ext e.symm hx
        · rw [if_neg e] at hx
          rw [if_neg (fun e' => e e'.symm)] at hy
          have m1 := b1 _ (rk_some hx.symm)
          have m2 := a1 _ (rk_some hy)
          have m1 : cmpL y.1 x.1 < 0 := m1
          have m2 : cmpL x.1 y.1 < 0 := m2
          have := cmpL_neg x.1 y.1
          omega
      subst hxy
      rw [ih a2 b2 fun L => ?_]
      have ht := h L
      rw [rk_cons, rk_cons] at ht
      by_cases e : x.1 = L
      · have hz : ∀ l : List Row, (∀ r ∈ l, cmpL x.1 r.1 < 0) → rk l L = none := fun l hl => rk_none.2 fun r hr he => by
          have := hl r hr
          rw [he, ← e, cmpL_self] at this
          omega
        rw [hz a a1, hz b b1]
      · rwa [if_neg e, if_neg e] at ht

/-! ### what the groups say -/
/-- the samples of labels among events, in their order -/
def partsOf (S : List Ev) (L : List Pr) : List (List Sm) := (S.filter (fun x => decide (x.1.1 = L))).map (·.1.2)
theorem partsOf_snoc (S : List Ev) (x : Ev) (L : List Pr) : partsOf (S ++ [x]) L = partsOf S L ++ (if x.1.1 = L then [x.1.2] else []) := by
  unfold partsOf
  rw [List.filter_append, List.map_append]
  congr 1
  by_cases h : x.1.1 = L
  · rw [if_pos h]; simp [h]
  · rw [if_neg h]; simp [h]
/-- what a group under way is -/
structure GInv (S : List Ev) (g : Grp) : Prop where
  cur : ∀ L ps, g.cur = some (L, ps) → ps = partsOf S L ∧ ps ≠ [] ∧ (∀ r ∈ g.done, cmpL r.1 L < 0) ∧ ∀ x ∈ S, cmpL x.1.1 L ≤ 0
  none_ : g.cur = none → S = [] ∧ g.done = []
  rls : Rls g.done
  say : ∀ r ∈ g.done, r.2 = smp (partsOf S r.1) ∧ partsOf S r.1 ≠ []
  all : ∀ x ∈ S, (∃ r ∈ g.done, r.1 = x.1.1) ∨ ∃ ps, g.cur = some (x.1.1, ps)
theorem GInv.start : GInv [] ⟨[], none⟩ := ⟨fun _ _ h => (by cases h), fun _ => ⟨rfl, rfl⟩, List.Pairwise.nil, fun _ h => (by simp at h), fun _ h => (by simp at h)⟩
theorem GInv.step {S : List Ev} {g : Grp} {x : Ev} (h : GInv S g) (hx : ∀ y ∈ S, cmpL y.1.1 x.1.1 ≤ 0) : GInv (S ++ [x]) (g.add x.1) := by
  obtain ⟨done, cur⟩ := g
  rcases cur with _ | ⟨L, ps⟩
  · obtain ⟨rfl, hd⟩ := h.none_ rfl
    have hd : done = [] := hd
    subst hd
    refine ⟨fun L ps he => ?_, fun he => (by cases he), List.Pairwise.nil, fun r hr => (by simp [Grp.add] at hr), fun y hy => .inr ?_⟩
    · have he : some (x.1.1, [x.1.2]) = some (L, ps) := he
      injection he with he
      injection he with h1 h2
      subst h1; subst h2
      refine ⟨by rw [partsOf_snoc, if_pos rfl]; rfl, by simp, fun r hr => (by simp [Grp.add] at hr), fun y hy => ?_⟩
      rcases List.mem_append.1 hy with hy | hy
      · exact hx y hy
      · obtain rfl := List.mem_singleton.1 hy
        rw [cmpL_self]; omega
    · obtain rfl : y = x := by simpa using hy
      exact ⟨_, rfl⟩
  · obtain ⟨c1, c2, c3, c4⟩ := h.cur L ps rfl
    by_cases e : L = x.1.1
    · have ha : (Grp.mk done (some (L, ps))).add x.1 = ⟨done, some (L, ps ++ [x.1.2])⟩ := if_pos e
      rw [ha]
      have hds : ∀ r ∈ done, r.1 ≠ x.1.1 := fun r hr he => by
        have := c3 r hr
        rw [he, e, cmpL_self] at this
        omega
      refine ⟨fun L' ps' he => ?_, fun he => (by cases he), h.rls, fun r hr => ?_, fun y hy => ?_⟩
      · injection he with he
        injection he with h1 h2
        subst h1; subst h2
        refine ⟨by rw [partsOf_snoc, if_pos e.symm, ← c1], by simp, c3, fun y hy => ?_⟩
        rcases List.mem_append.1 hy with hy | hy
        · exact c4 y hy
        · obtain rfl := List.mem_singleton.1 hy
          rw [e, cmpL_self]; omega
      · rw [partsOf_snoc, if_neg (fun h => hds r hr h.symm), List.append_nil]
        exact h.say r hr
      · rcases List.mem_append.1 hy with hy | hy
        · rcases h.all y hy with h1 | ⟨ps', h1⟩
          · exact .inl h1
          · right
            injection h1 with h1
            injection h1 with h1 _
            exact ⟨_, by rw [h1]⟩
        · obtain rfl := List.mem_singleton.1 hy
          exact .inr ⟨_, by rw [e]⟩
    · have ha : (Grp.mk done (some (L, ps))).add x.1 = ⟨done ++ [(L, smp ps)], some (x.1.1, [x.1.2])⟩ := if_neg e
      rw [ha]
      have hmem : ∃ y ∈ S, y.1.1 = L := by
        rcases hp : S.filter (fun y => decide (y.1.1 = L)) with _ | ⟨y, r⟩
        · exact absurd (by rw [c1]; unfold partsOf; rw [hp]; rfl) c2
        · have : y ∈ S.filter (fun y => decide (y.1.1 = L)) := by rw [hp]; simp
          exact ⟨y, (List.mem_filter.1 this).1, of_decide_eq_true (List.mem_filter.1 this).2⟩
      have hlt : cmpL L x.1.1 < 0 := by
        obtain ⟨y, hy, rfl⟩ := hmem
        have h1 := hx y hy
        by_cases h0 : cmpL y.1.1 x.1.1 = 0
        · exact absurd (cmpL_zero.1 h0) e
        · omega
      have hnew : ∀ y ∈ S, y.1.1 ≠ x.1.1 := fun y hy he => by
        have := c4 y hy
        rw [he] at this
        have := cmpL_neg L x.1.1
        omega
      have hpx : partsOf S x.1.1 = [] := by
        unfold partsOf
        rw [List.filter_eq_nil_iff.2 fun y hy => by simpa using hnew y hy]; rfl
      refine ⟨fun L' ps' he => ?_, fun he => (by cases he), ?_, fun r hr => ?_, fun y hy => ?_⟩
      · injection he with he
        injection he with h1 h2
        subst h1; subst h2
        refine ⟨by rw [partsOf_snoc, if_pos rfl, hpx]; rfl, by simp, fun r hr => ?_, fun y hy => ?_⟩
        · rcases List.mem_append.1 hr with hr | hr
          · exact cmpL_lt_trans (c3 r hr) hlt
          · obtain rfl := List.mem_singleton.1 hr
            exact hlt
        · rcases List.mem_append.1 hy with hy | hy
          · exact hx y hy
          · obtain rfl := List.mem_singleton.1 hy
            rw [cmpL_self]; omega
      · refine List.pairwise_append.2 ⟨h.rls, List.pairwise_singleton _ _, fun a ha b hb => ?_⟩
        obtain rfl := List.mem_singleton.1 hb
        exact c3 a ha
      · have hne : r.1 ≠ x.1.1 := fun he => by
          rcases List.mem_append.1 hr with hr | hr
          · have := cmpL_lt_trans (c3 r hr) hlt
            rw [he, cmpL_self] at this; omega
          · obtain rfl := List.mem_singleton.1 hr
            exact e he
        rw [partsOf_snoc, if_neg (fun h => hne h.symm), List.append_nil]
        rcases List.mem_append.1 hr with hr | hr
        · exact h.say r hr
        · obtain rfl := List.mem_singleton.1 hr
          exact ⟨by show smp ps = _; rw [c1], by rw [← c1]; exact c2⟩
      · rcases List.mem_append.1 hy with hy | hy
        · left
          rcases h.all y hy with ⟨r, hr, h1⟩ | ⟨ps', h1⟩
          · exact ⟨r, List.mem_append_left _ hr, h1⟩
          · injection h1 with h1
            injection h1 with h1 _
            exact ⟨(L, smp ps), by simp, h1⟩
        · obtain rfl := List.mem_singleton.1 hy
          exact .inr ⟨_, rfl⟩
theorem grpOf_inv : ∀ (S : List Ev), S.Pairwise (fun a b => cmpL a.1.1 b.1.1 ≤ 0) → GInv S (grpOf S) := by
  refine revRec (fun _ => GInv.start) fun S x ih h => ?_
  obtain ⟨h1, _, h2⟩ := List.pairwise_append.1 h
  rw [grpOf_snoc]
  exact (ih h1).step fun y hy => h2 y hy x (by simp)
/-- the table of events in order: each labels once, rising, with all their samples -/
theorem grp_spec {S : List Ev} (h : S.Pairwise (fun a b => cmpL a.1.1 b.1.1 ≤ 0)) : Rls (grp S) ∧ ∀ L, rk (grp S) L = if partsOf S L = [] then none else some (smp (partsOf S L)) := by
  have g := grpOf_inv S h
  unfold grp Grp.flush
  rcases hc : (grpOf S).cur with _ | ⟨L, ps⟩
  · obtain ⟨hS, hd⟩ := g.none_ hc
    subst hS
    rw [hd]
    exact ⟨List.Pairwise.nil, fun L => rfl⟩
  · obtain ⟨c1, c2, c3, c4⟩ := g.cur L ps hc
    have hr : Rls ((grpOf S).done ++ [(L, smp ps)]) := List.pairwise_append.2 ⟨g.rls, List.pairwise_singleton _ _, fun a ha b hb => by
      obtain rfl := List.mem_singleton.1 hb
      exact c3 a ha⟩
    refine ⟨hr, fun L' => ?_⟩
    rcases hk : rk ((grpOf S).done ++ [(L, smp ps)]) L' with _ | s
    · have hn := rk_none.1 hk
      rw [if_pos]
      rcases hp : partsOf S L' with _ | ⟨p, r⟩
      · rfl
      · exfalso
        have : ∃ x ∈ S, x.1.1 = L' := by
          unfold partsOf at hp
          rcases hf : S.filter (fun x => decide (x.1.1 = L')) with _ | ⟨y, q⟩
          · rw [hf] at hp; cases hp
          · have : y ∈ S.filter (fun x => decide (x.1.1 = L')) := by rw [hf]; simp
            exact ⟨y, (List.mem_filter.1 this).1, of_decide_eq_true (List.mem_filter.1 this).2⟩
        obtain ⟨x, hx, rfl⟩ := this
        rcases g.all x hx with ⟨r, hr, h1⟩ | ⟨ps', h1⟩
        · exact hn r (List.mem_append_left _ hr) h1
        · rw [hc] at h1
          injection h1 with h1
          injection h1 with h1 _
          exact hn (L, smp ps) (by simp) h1
    · have hm := rk_some hk
      rcases List.mem_append.1 hm with hm | hm
      · have this : s = smp (partsOf S L') ∧ partsOf S L' ≠ [] := g.say _ hm
        rw [if_neg this.2, this.1]
      · have hm := List.mem_singleton.1 hm
        injection hm with h1 h2
        subst h1
        rw [if_neg (by rw [← c1]; exact c2), h2, c1]

/-! ### the parts of labels, in the tables' order -/
theorem perm_one {α : Type} {lt : α → α → Prop} (hirr : ∀ x y, lt x y → ¬ lt y x) : ∀ {l m : List α}, l.Perm m → l.Pairwise lt → m.Pairwise lt → l = m
  | [], m, h, _, _ => (List.nil_perm.1 h).symm
  | x :: l, [], h, _, _ => by have := h.length_eq; simp at this
  | x :: l, y :: m, h, h1, h2 => by
    obtain ⟨a1, a2⟩ := List.pairwise_cons.1 h1
    obtain ⟨b1, b2⟩ := List.pairwise_cons.1 h2
    have hxy : x = y := by
      rcases List.mem_cons.1 (h.mem_iff.1 (List.mem_cons_self)) with e | e
      · exact e
      · rcases List.mem_cons.1 (h.mem_iff.2 (List.mem_cons_self)) with e' | e'
        · exact e'.symm
        · exact absurd (b1 x e) (hirr _ _ (a1 y e'))
    subst hxy
    rw [perm_one hirr (List.Perm.cons_inv h) a2 b2]
theorem one_row {t : List Row} (h : Rls t) (k : Nat) (L : List Pr) : (t.map (fun x => (x, k))).filter (fun x : Ev => decide (x.1.1 = L)) = (match rk t L with | none => [] | some s => [((L, s), k)]) := by
  induction t with
  | nil => rfl
  | cons r t ih =>
    obtain ⟨h1, h2⟩ := List.pairwise_cons.1 h
    rw [List.map_cons, List.filter_cons, rk_cons]
    by_cases e : r.1 = L
    · rw [if_pos (decide_eq_true e), if_pos e]
      have : rk t L = none := rk_none.2 fun x hx he => by
        have := h1 x hx
        rw [he, e, cmpL_self] at this; omega
      rw [ih h2, this]
      obtain ⟨r1, r2⟩ := r
      have e : r1 = L := e
      rw [e]
    · rw [if_neg (by rw [decide_eq_true_eq]; exact e), if_neg e]
      exact ih h2
theorem evsK_tab {ls : List (List Row)} : ∀ {k : Nat} {x : Ev}, x ∈ evsK k ls → k ≤ x.2 := by
  induction ls with
  | nil => intro k x h; simp [evsK] at h
  | cons t r ih =>
    intro k x h
    rcases List.mem_append.1 (show x ∈ t.map (fun x => (x, k)) ++ evsK (k + 1) r from h) with h | h
    · obtain ⟨y, _, rfl⟩ := List.mem_map.1 h; exact Nat.le_refl _
    · have := ih h; omega
theorem evsK_parts {ls : List (List Row)} (L : List Pr) : ∀ (k : Nat), (∀ t ∈ ls, Rls t) → ((evsK k ls).filter (fun x => decide (x.1.1 = L))).Pairwise (fun a b => a.2 < b.2) ∧ ((evsK k ls).filter (fun x => decide (x.1.1 = L))).map (·.1.2) = ls.filterMap (fun t => rk t L) := by
  induction ls with
  | nil => intro k _; exact ⟨List.Pairwise.nil, rfl⟩
  | cons t r ih =>
    intro k h
    obtain ⟨i1, i2⟩ := ih (k + 1) (fun t ht => h t (by simp [ht]))
    have e : (evsK k (t :: r)).filter (fun x => decide (x.1.1 = L)) = (match rk t L with | none => [] | some s => [((L, s), k)]) ++ (evsK (k + 1) r).filter (fun x => decide (x.1.1 = L)) := by
      show (t.map (fun x => (x, k)) ++ evsK (k + 1) r).filter _ = _
      rw [List.filter_append, one_row (h t (by simp))]
    rw [e, List.filterMap_cons]
    rcases rk t L with _ | s
    · exact ⟨i1, i2⟩
    · refine ⟨List.pairwise_cons.2 ⟨fun y hy => ?_, i1⟩, by rw [List.map_append, i2]; rfl⟩
      have := evsK_tab (List.mem_filter.1 hy).1
      show k < y.2
      omega
theorem parts_tables {ls : List (List Row)} {S : List Ev} (h : ∀ t ∈ ls, Rls t) (hp : S.Perm (evs ls)) (hs : S.Pairwise ltE) (L : List Pr) : partsOf S L = ls.filterMap (fun t => rk t L) := by
  obtain ⟨h1, h2⟩ := evsK_parts L 0 h
  rw [← h2]
  unfold partsOf
  congr 1
  refine perm_one (lt := fun a b : Ev => a.2 < b.2) (fun x y h1 h2 => by omega) (hp.filter _) ?_ h1
  refine (List.pairwise_filter.2 ?_)
  refine hs.imp fun {a b} hab ha hb => ?_
  have ha : a.1.1 = L := of_decide_eq_true ha
  have hb : b.1.1 = L := of_decide_eq_true hb
  unfold ltE at hab
  rw [ha, hb, cmpL_self] at hab
  omega
/-- several tables as one -/
def tabs (ls : List (List Row)) (R : List Row) : Prop := Rls R ∧ ∀ L, rk R L = if ls.filterMap (fun t => rk t L) = [] then none else some (smp (ls.filterMap (fun t => rk t L)))
theorem grp_tabs {ls : List (List Row)} {S : List Ev} (h : ∀ t ∈ ls, Rls t) (hp : S.Perm (evs ls)) (hs : S.Pairwise ltE) : tabs ls (grp S) := by
  obtain ⟨h1, h2⟩ := grp_spec (S := S) (hs.imp fun {a b} hab => by unfold ltE at hab; omega)
  refine ⟨h1, fun L => ?_⟩
  rw [h2, parts_tables h hp hs]
theorem tabs_one {ls : List (List Row)} {R R' : List Row} (h : tabs ls R) (h' : tabs ls R') : R = R' := rls_ext h.1 h'.1 fun L => by rw [h.2, h'.2]
end Go.Bar.Mrg

/-
  Layer 14: plain: tables said by their values (a sample of labels and a time); the reference's Add and Between.
-/
namespace Go.Bar.Mrg
open Go.RowKit Go.Bar Go.Bar.Xor Go.Bar.Lab

/-- a table's sample of labels and a time -/
def val (R : List Row) (L : List Pr) (t : Int) : Option Sm := (rk R L).bind (fun s => lk s t)
/-- a table whose rows rise, rise in themselves, and have samples -/
structure Tb (R : List Row) : Prop where
  rls : Rls R
  ris : ∀ r ∈ R, Ris r.2
  ne : ∀ r ∈ R, r.2 ≠ []
theorem Tb.nil : Tb [] := ⟨List.Pairwise.nil, fun _ h => (by cases h), fun _ h => (by cases h)⟩
theorem val_nil (L : List Pr) (t : Int) : val [] L t = none := rfl
theorem val_cons (r : Row) (R : List Row) (L : List Pr) (t : Int) : val (r :: R) L t = if r.1 = L then lk r.2 t else val R L t := by
  unfold val
  rw [rk_cons]
  by_cases h : r.1 = L
  · rw [if_pos h, if_pos h]; rfl
  · rw [if_neg h, if_neg h]
theorem rk_mem {R : List Row} (h : Rls R) {r : Row} (hr : r ∈ R) : rk R r.1 = some r.2 := by
  induction R with
  | nil => cases hr
  | cons x R ih =>
    obtain ⟨h1, h2⟩ := List.pairwise_cons.1 h
    rw [rk_cons]
    rcases List.mem_cons.1 hr with rfl | hr
    · rw [if_pos rfl]
    · rw [if_neg (fun e => by have := h1 r hr; rw [e, cmpL_self] at this; omega), ih h2 hr]
theorem lk_first (x : Sm) (s : List Sm) : lk (x :: s) x.1 = some x := by rw [lk_cons, if_pos rfl]
theorem ne_lk {s : List Sm} (h : s ≠ []) : ∃ t x, lk s t = some x := by
  rcases s with _ | ⟨x, s⟩
  · exact absurd rfl h
  · exact ⟨x.1, x, lk_first x s⟩
theorem tb_ext {a b : List Row} (ha : Tb a) (hb : Tb b) (h : ∀ L t, val a L t = val b L t) : a = b := by
  refine rls_ext ha.rls hb.rls fun L => ?_
  have hL := h L
  unfold val at hL
  rcases h1 : rk a L with _ | s
  · rcases h2 : rk b L with _ | s'
    · rfl
    · obtain ⟨t, x, hx⟩ := ne_lk (hb.ne _ (rk_some h2))
      have := hL t
      rw [h1, h2] at this
      rw [show (some s').bind (fun s => lk s t) = lk s' t from rfl, hx] at this
      cases this
  · rcases h2 : rk b L with _ | s'
    · obtain ⟨t, x, hx⟩ := ne_lk (ha.ne _ (rk_some h1))
      have := hL t
      rw [h1, h2] at this
      rw [show (some s).bind (fun s => lk s t) = lk s t from rfl, hx] at this
      cases this
    · congr 1
      refine ris_ext (ha.ris _ (rk_some h1)) (hb.ris _ (rk_some h2)) fun t => ?_
      have := hL t
      rw [h1, h2] at this
      exact this
theorem val_time {R : List Row} {L : List Pr} {t : Int} {x : Sm} (h : val R L t = some x) : x.1 = t := by
  unfold val at h
  rcases h1 : rk R L with _ | s
  · rw [h1] at h; cases h
  · rw [h1] at h; exact (lk_some h).2
theorem val_none {R : List Row} {L : List Pr} (h : ∀ r ∈ R, r.1 ≠ L) (t : Int) : val R L t = none := by
  unfold val
  rw [rk_none.2 h]; rfl

/-! ### the reference's Add -/
def addG (L : List Pr) (s : Sm) : Bool → List Row → List Row
  | true, [] => []
  | false, [] => [(L, [s])]
  | true, r :: t => (if cmpL L r.1 = 0 then (r.1, putS r.2 s) else r) :: addG L s true t
  | false, r :: t => if cmpL L r.1 = 0 then (r.1, putS r.2 s) :: addG L s true t else if cmpL L r.1 < 0 then (L, [s]) :: r :: addG L s true t else r :: addG L s false t
def addR (l : List Row) (L : List Pr) (s : Sm) : List Row := addG L s false l
theorem addG_true {L : List Pr} {s : Sm} : ∀ {l : List Row}, (∀ r ∈ l, L ≠ r.1) → addG L s true l = l
  | [], _ => rfl
  | r :: l, h => by
    show (if cmpL L r.1 = 0 then (r.1, putS r.2 s) else r) :: addG L s true l = _
    rw [if_neg (fun e => h r (List.mem_cons_self ..) (cmpL_zero.1 e)), addG_true fun x hx => h x (List.mem_cons_of_mem _ hx)]
theorem addG_len (L : List Pr) (s : Sm) : ∀ (b : Bool) (l : List Row), (addG L s b l).length ≤ l.length + 1
  | true, [] => Nat.zero_le _
  | false, [] => Nat.le_refl _
  | true, r :: l => Nat.succ_le_succ (addG_len L s true l)
  | false, r :: l => by
    show (if cmpL L r.1 = 0 then _ else if cmpL L r.1 < 0 then _ else _ : List Row).length ≤ _
    have h1 : ∀ l, (addG L s true l).length = l.length := fun l => by
      induction l with
      | nil => rfl
      | cons x l ih => exact congrArg (· + 1) ih
    split
    · rw [List.length_cons, h1]; simp
    · split
      · rw [List.length_cons, List.length_cons, h1]; simp
      · exact Nat.succ_le_succ (addG_len L s false l)
theorem putS_ne (l : List Sm) (s : Sm) : putS l s ≠ [] := by
  cases l with
  | nil => simp [putS]
  | cons x r => unfold putS; split <;> (try split) <;> simp
theorem addR_spec {L : List Pr} {s : Sm} : ∀ {l : List Row}, Tb l → Tb (addR l L s) ∧ (∀ r ∈ addR l L s, r.1 = L ∨ ∃ x ∈ l, x.1 = r.1) ∧ ∀ L' t, val (addR l L s) L' t = if L = L' then (val l L t).or (lk [s] t) else val l L' t
  | [], _ => ⟨⟨List.pairwise_singleton _ _, fun r hr => by obtain rfl := List.mem_singleton.1 hr; exact List.pairwise_singleton _ _, fun r hr => by obtain rfl := List.mem_singleton.1 hr; simp⟩,
      fun r hr => by obtain rfl := List.mem_singleton.1 hr; exact .inl rfl, fun L' t => by
        show val [(L, [s])] L' t = _
        rw [val_cons, val_nil, val_nil, Option.none_or]⟩
  | r :: l, h => by
    obtain ⟨h1, h2⟩ := List.pairwise_cons.1 h.rls
    have hl : Tb l := ⟨h2, fun x hx => h.ris x (List.mem_cons_of_mem _ hx), fun x hx => h.ne x (List.mem_cons_of_mem _ hx)⟩
    have hr := h.ris r (List.mem_cons_self ..)
    have hn := h.ne r (List.mem_cons_self ..)
    by_cases e : cmpL L r.1 = 0
    · have e2 := cmpL_zero.1 e
      subst e2
      have hne : ∀ x ∈ l, r.1 ≠ x.1 := fun x hx he => by have := h1 x hx; rw [he, cmpL_self] at this; omega
      have ea : addR (r :: l) r.1 s = (r.1, putS r.2 s) :: l := by
        show (if cmpL r.1 r.1 = 0 then _ else _ : List Row) = _
        rw [if_pos e, addG_true hne]
      rw [ea]
      refine ⟨⟨List.pairwise_cons.2 ⟨h1, h2⟩, fun x hx => ?_, fun x hx => ?_⟩, fun x hx => ?_, fun L' t => ?_⟩
      · rcases List.mem_cons.1 hx with rfl | hx
        · exact hr.put s
        · exact hl.ris x hx
      · rcases List.mem_cons.1 hx with rfl | hx
        · exact putS_ne _ _
        · exact hl.ne x hx
      · rcases List.mem_cons.1 hx with rfl | hx
        · exact .inl rfl
        · exact .inr ⟨x, List.mem_cons_of_mem _ hx, rfl⟩
      · rw [val_cons, val_cons, val_cons]
        by_cases e3 : r.1 = L'
        · rw [if_pos e3, if_pos e3, if_pos rfl, lk_put hr]
        · rw [if_neg e3, if_neg e3, if_neg e3]
    · by_cases e2 : cmpL L r.1 < 0
      · have hlt : ∀ x ∈ r :: l, cmpL L x.1 < 0 := fun x hx => by
          rcases List.mem_cons.1 hx with rfl | hx
          · exact e2
          · exact cmpL_lt_trans e2 (h1 x hx)
        have hne : ∀ x ∈ r :: l, L ≠ x.1 := fun x hx he => by have := hlt x hx; rw [he, cmpL_self] at this; omega
        have ea : addR (r :: l) L s = (L, [s]) :: r :: l := by
          show (if cmpL L r.1 = 0 then _ else if cmpL L r.1 < 0 then _ else _ : List Row) = _
          rw [if_neg e, if_pos e2, addG_true fun x hx => hne x (List.mem_cons_of_mem _ hx)]
        rw [ea]
        refine ⟨⟨List.pairwise_cons.2 ⟨hlt, h.rls⟩, fun x hx => ?_, fun x hx => ?_⟩, fun x hx => ?_, fun L' t => ?_⟩
        · rcases List.mem_cons.1 hx with rfl | hx
          · exact List.pairwise_singleton _ _
          · exact h.ris x hx
        · rcases List.mem_cons.1 hx with rfl | hx
          · simp
          · exact h.ne x hx
        · rcases List.mem_cons.1 hx with rfl | hx
          · exact .inl rfl
          · exact .inr ⟨x, hx, rfl⟩
        · rw [val_cons]
          show (if L = L' then _ else _) = _
          by_cases e3 : L = L'
          · rw [if_pos e3, if_pos e3, val_none (fun x hx he => hne x hx he.symm), Option.none_or]
          · rw [if_neg e3, if_neg e3]
      · have ea : addR (r :: l) L s = r :: addR l L s := by
          show (if cmpL L r.1 = 0 then _ else if cmpL L r.1 < 0 then _ else _ : List Row) = _
          rw [if_neg e, if_neg e2]; rfl
        obtain ⟨i1, i2, i3⟩ := addR_spec (L := L) (s := s) hl
        have hgt : cmpL r.1 L < 0 := by have := cmpL_neg r.1 L; omega
        rw [ea]
        refine ⟨⟨List.pairwise_cons.2 ⟨fun x hx => ?_, i1.rls⟩, fun x hx => ?_, fun x hx => ?_⟩, fun x hx => ?_, fun L' t => ?_⟩
        · rcases i2 x hx with he | ⟨y, hy, he⟩
          · rw [he]; exact hgt
          · rw [← he]; exact h1 y hy
        · rcases List.mem_cons.1 hx with rfl | hx
          · exact hr
          · exact i1.ris x hx
        · rcases List.mem_cons.1 hx with rfl | hx
          · exact hn
          · exact i1.ne x hx
        · rcases List.mem_cons.1 hx with rfl | hx
          · exact .inr ⟨x, List.mem_cons_self .., rfl⟩
          · rcases i2 x hx with he | ⟨y, hy, he⟩
            · exact .inl he
            · exact .inr ⟨y, List.mem_cons_of_mem _ hy, he⟩
        · have hrL : r.1 ≠ L := fun he => e (cmpL_zero.2 he.symm)
          rw [val_cons, i3, val_cons, val_cons, if_neg hrL]
          by_cases e3 : r.1 = L'
          · rw [if_pos e3, if_pos e3, if_neg (fun e4 => hrL (e3.trans e4.symm))]
          · rw [if_neg e3, if_neg e3]

/-- a table with samples of labels, one by one -/
abbrev Pt := List Pr × Sm
def addAll (l : List Row) (xs : List Pt) : List Row := xs.foldl (fun l x => addR l x.1 x.2) l
/-- the first sample of labels and a time -/
def ptv (xs : List Pt) (L : List Pr) (t : Int) : Option Sm := xs.findSome? (fun x => if x.1 = L then lk [x.2] t else none)
theorem ptv_nil (L : List Pr) (t : Int) : ptv [] L t = none := rfl
theorem ptv_cons (x : Pt) (xs : List Pt) (L : List Pr) (t : Int) : ptv (x :: xs) L t = (if x.1 = L then lk [x.2] t else none).or (ptv xs L t) := by
  unfold ptv
  rw [List.findSome?_cons]
  split <;> simp_all
theorem ptv_append (xs ys : List Pt) (L : List Pr) (t : Int) : ptv (xs ++ ys) L t = (ptv xs L t).or (ptv ys L t) := by
  induction xs with
  | nil => rw [List.nil_append, ptv_nil, Option.none_or]
  | cons x xs ih => rw [List.cons_append, ptv_cons, ptv_cons, ih, Option.or_assoc]
theorem addAll_spec : ∀ {l : List Row} (xs : List Pt), Tb l → Tb (addAll l xs) ∧ ∀ L t, val (addAll l xs) L t = (val l L t).or (ptv xs L t) := by
  intro l xs
  induction xs generalizing l with
  | nil => exact fun h => ⟨h, fun L t => by rw [ptv_nil, Option.or_none]; rfl⟩
  | cons x xs ih =>
    intro h
    obtain ⟨h1, h2, h3⟩ := addR_spec (L := x.1) (s := x.2) h
    obtain ⟨i1, i2⟩ := ih h1
    refine ⟨i1, fun L t => ?_⟩
    show val (addAll (addR l x.1 x.2) xs) L t = _
    rw [i2, h3, ptv_cons]
    by_cases e : x.1 = L
    · rw [if_pos e, if_pos e, Option.or_assoc, e]
    · rw [if_neg e, if_neg e, Option.none_or]
theorem addAll_append (l : List Row) (xs ys : List Pt) : addAll l (xs ++ ys) = addAll (addAll l xs) ys := List.foldl_append
theorem addAll_len (xs : List Pt) : ∀ l, (addAll l xs).length ≤ l.length + xs.length := by
  induction xs with
  | nil => exact fun l => Nat.le_refl _
  | cons x xs ih =>
    intro l
    have h1 := ih (addR l x.1 x.2)
    have h2 := addG_len x.1 x.2 false l
    show (addAll (addR l x.1 x.2) xs).length ≤ _
    unfold addR at h1 ⊢
    rw [List.length_cons]
    omega
/-- a table's points -/
def ptsOf (R : List Row) : List Pt := R.flatMap (fun r => r.2.map (fun s => (r.1, s)))
theorem ptv_row (L : List Pr) (s : List Sm) (L' : List Pr) (t : Int) : ptv (s.map (fun s => (L, s))) L' t = if L = L' then lk s t else none := by
  induction s with
  | nil => rw [List.map_nil, ptv_nil, lk_nil]; split <;> rfl
  | cons x s ih =>
    rw [List.map_cons, ptv_cons, ih]
    show (if L = L' then lk [x] t else none).or _ = _
    by_cases e : L = L'
    · rw [if_pos e, if_pos e, if_pos e, lk_cons, lk_cons, lk_nil]
      split <;> simp
    · rw [if_neg e, if_neg e, if_neg e]; rfl
theorem ptv_pts {R : List Row} (h : Rls R) (L : List Pr) (t : Int) : ptv (ptsOf R) L t = val R L t := by
  induction R with
  | nil => rfl
  | cons r R ih =>
    obtain ⟨h1, h2⟩ := List.pairwise_cons.1 h
    show ptv (r.2.map (fun s => (r.1, s)) ++ ptsOf R) L t = _
    rw [ptv_append, ptv_row, ih h2, val_cons]
    by_cases e : r.1 = L
    · rw [if_pos e, if_pos e, val_none fun x hx he => by have := h1 x hx; rw [he, e, cmpL_self] at this; omega, Option.or_none]
    · rw [if_neg e, if_neg e, Option.none_or]
theorem addAll_pts {R : List Row} (h : Tb R) : addAll [] (ptsOf R) = R := by
  obtain ⟨h1, h2⟩ := addAll_spec (ptsOf R) Tb.nil
  exact tb_ext h1 h fun L t => by rw [h2, val_nil, Option.none_or, ptv_pts h.rls]

/-! ### several tables as one -/
theorem lk_parts (ls : List (List Row)) (L : List Pr) (t : Int) : lk (ls.filterMap (fun t => rk t L)).flatten t = ls.findSome? (fun x => val x L t) := by
  induction ls with
  | nil => rfl
  | cons x ls ih =>
    rw [List.filterMap_cons, List.findSome?_cons]
    unfold val at ih ⊢
    rcases h : rk x L with _ | s
    · exact ih
    · show lk (s ++ _) t = _
      rw [lk_append, ih]
      simp only [Option.bind_some]
      cases lk s t <;> rfl
theorem tabs_spec {ls : List (List Row)} {R : List Row} (h : tabs ls R) (hl : ∀ x ∈ ls, Tb x) : Tb R ∧ ∀ L t, val R L t = ls.findSome? (fun x => val x L t) := by
  obtain ⟨h1, h2⟩ := h
  have hr : ∀ r ∈ R, ls.filterMap (fun t => rk t r.1) ≠ [] ∧ r.2 = smp (ls.filterMap (fun t => rk t r.1)) := fun r hr => by
    have e := rk_mem h1 hr
    rw [h2] at e
    split at e
    · cases e
    · rename_i hne
      injection e with e
      exact ⟨hne, e.symm⟩
  refine ⟨⟨h1, fun r hr' => ?_, fun r hr' => ?_⟩, fun L t => ?_⟩
  · rw [(hr r hr').2]; exact smp_ris _
  · obtain ⟨hne, e⟩ := hr r hr'
    rcases hf : ls.filterMap (fun t => rk t r.1) with _ | ⟨s, fm⟩
    · exact absurd hf hne
    · have hs : s ∈ ls.filterMap (fun t => rk t r.1) := by rw [hf]; exact List.mem_cons_self ..
      obtain ⟨x, hx, hxs⟩ := List.mem_filterMap.1 hs
      have hsne := (hl x hx).ne _ (rk_some hxs)
      intro h0
      rw [e, hf] at h0
      rcases s with _ | ⟨y, s⟩
      · exact hsne rfl
      · have := lk_smp ((y :: s) :: fm) y.1
        rw [h0, lk_nil] at this
        rw [show ((y :: s) :: fm).flatten = y :: (s ++ fm.flatten) from rfl, lk_first] at this
        cases this
  · rw [← lk_parts]
    unfold val
    rw [h2]
    split
    · rename_i e
      rw [e]; rfl
    · exact lk_smp _ _

/-! ### what is between two times -/
def inT (from_ to_ : Int) (s : Sm) : Bool := decide (from_ ≤ s.1) && decide (s.1 < to_)
def cutR (from_ to_ : Int) (r : Row) : Option Row := if r.2.filter (inT from_ to_) = [] then none else some (r.1, r.2.filter (inT from_ to_))
def betw (R : List Row) (from_ to_ : Int) : List Row := R.filterMap (cutR from_ to_)
theorem lk_filter {s : List Sm} (p : Sm → Bool) (q : Int → Bool) (hp : ∀ x : Sm, p x = q x.1) (t : Int) : lk (s.filter p) t = if q t = true then lk s t else none := by
  induction s with
  | nil => rw [List.filter_nil, lk_nil]; split <;> rfl
  | cons x s ih =>
    rw [List.filter_cons, hp]
    by_cases h : q x.1 = true
    · rw [if_pos h, lk_cons, lk_cons, ih]
      by_cases e : x.1 = t
      · rw [if_pos e, if_pos e, if_pos (e ▸ h)]
      · rw [if_neg e, if_neg e]
    · rw [if_neg h, lk_cons, ih]
      by_cases e : x.1 = t
      · rw [if_pos e, if_neg (e ▸ h), if_neg (e ▸ h)]
      · rw [if_neg e]
theorem betw_cons (r : Row) (R : List Row) (a b : Int) : betw (r :: R) a b = (match cutR a b r with | none => [] | some x => [x]) ++ betw R a b := by
  unfold betw
  rw [List.filterMap_cons]
  cases cutR a b r <;> rfl
theorem betw_mem {R : List Row} {a b : Int} {r : Row} (h : r ∈ betw R a b) : ∃ x ∈ R, x.1 = r.1 ∧ r.2 = x.2.filter (inT a b) ∧ r.2 ≠ [] := by
  obtain ⟨x, hx, he⟩ := List.mem_filterMap.1 h
  unfold cutR at he
  split at he
  · cases he
  · rename_i hne
    injection he with he
    subst he
    exact ⟨x, hx, rfl, rfl, hne⟩
theorem betw_spec {R : List Row} (a b : Int) (h : Tb R) : Tb (betw R a b) ∧ ∀ L t, val (betw R a b) L t = if (decide (a ≤ t) && decide (t < b)) = true then val R L t else none := by
  refine ⟨⟨?_, fun r hr => ?_, fun r hr => ?_⟩, ?_⟩
  · have hr := h.rls
    clear h
    induction R with
    | nil => exact List.Pairwise.nil
    | cons r R ih =>
      obtain ⟨h1, h2⟩ := List.pairwise_cons.1 hr
      rw [betw_cons]
      unfold cutR
      split
      · exact ih h2
      · rename_i he
        split at he
        · cases he
        · injection he with he
          subst he
          refine List.pairwise_cons.2 ⟨fun x hx => ?_, ih h2⟩
          obtain ⟨y, hy, e1, _⟩ := betw_mem hx
          rw [← e1]
          exact h1 y hy
  · obtain ⟨x, hx, _, e2, _⟩ := betw_mem hr
    rw [e2]
    exact (h.ris x hx).sublist List.filter_sublist
  · obtain ⟨x, hx, _, _, hne⟩ := betw_mem hr
    exact hne
  · intro L t
    have hr := h.rls
    clear h
    induction R with
    | nil => rw [val_nil]; split <;> rfl
    | cons r R ih =>
      obtain ⟨h1, h2⟩ := List.pairwise_cons.1 hr
      have hq := lk_filter (s := r.2) (inT a b) (fun t => decide (a ≤ t) && decide (t < b)) (fun x => rfl) t
      rw [betw_cons, val_cons]
      by_cases e : r.1 = L
      · rw [if_pos e, ← hq]
        have hz : val (betw R a b) L t = none := val_none (fun x hx he => by
          obtain ⟨y, hy, e1, _⟩ := betw_mem hx
          have := h1 y hy
          rw [e1, he, e, cmpL_self] at this
          omega) t
        unfold cutR
        by_cases hn : r.2.filter (inT a b) = []
        · rw [if_pos hn, hn, lk_nil]
          exact hz
        · rw [if_neg hn]
          show val ((r.1, r.2.filter (inT a b)) :: betw R a b) L t = _
          rw [val_cons, if_pos e]
      · rw [if_neg e, ← ih h2]
        unfold cutR
        by_cases hn : r.2.filter (inT a b) = []
        · rw [if_pos hn]; rfl
        · rw [if_neg hn]
          show val ((r.1, r.2.filter (inT a b)) :: betw R a b) L t = _
          rw [val_cons, if_neg e]
/-- the reference's -/
def betwR (R : List Row) (a b : Int) : List Row := addAll [] (R.flatMap (fun r => (r.2.filter (inT a b)).map (fun s => (r.1, s))))
theorem betwR_eq {R : List Row} (a b : Int) (h : Tb R) : betwR R a b = betw R a b := by
  have e : R.flatMap (fun r => (r.2.filter (inT a b)).map (fun s => (r.1, s))) = ptsOf (betw R a b) := by
    clear h
    induction R with
    | nil => rfl
    | cons r R ih =>
      rw [List.flatMap_cons, ih, betw_cons]
      unfold cutR
      by_cases hn : r.2.filter (inT a b) = []
      · rw [if_pos hn, hn]; rfl
      · rw [if_neg hn]; rfl
  unfold betwR
  rw [e, addAll_pts (betw_spec a b h).1]

/-! ### the laws -/
/-- the document's table of several tables -/
theorem want_tabs {ls : List (List Row)} {R : List Row} (h : tabs ls R) (hl : ∀ x ∈ ls, Tb x) : R = addAll [] (ls.flatMap ptsOf) := by
  obtain ⟨h1, h2⟩ := tabs_spec h hl
  obtain ⟨h3, h4⟩ := addAll_spec (ls.flatMap ptsOf) Tb.nil
  refine tb_ext h1 h3 fun L t => ?_
  rw [h2, h4, val_nil, Option.none_or]
  clear h h1 h2 h3 h4
  induction ls with
  | nil => rfl
  | cons x ls ih =>
    rw [List.flatMap_cons, ptv_append, ptv_pts (hl x (List.mem_cons_self ..)).rls, List.findSome?_cons, ← ih fun y hy => hl y (List.mem_cons_of_mem _ hy)]
    cases val x L t <;> rfl
theorem all1 {α : Type} {P : α → Prop} {a : α} (h : P a) : ∀ x ∈ [a], P x := fun x hx => by obtain rfl := List.mem_singleton.1 hx; exact h
theorem all2 {α : Type} {P : α → Prop} {a b : α} (h1 : P a) (h2 : P b) : ∀ x ∈ [a, b], P x := fun x hx => by
  rcases List.mem_cons.1 hx with rfl | hx
  · exact h1
  · exact all1 h2 x hx
theorem all3 {α : Type} {P : α → Prop} {a b c : α} (h1 : P a) (h2 : P b) (h3 : P c) : ∀ x ∈ [a, b, c], P x := fun x hx => by
  rcases List.mem_cons.1 hx with rfl | hx
  · exact h1
  · exact all2 h2 h3 x hx
theorem tabs_self {R S : List Row} (hR : Tb R) (h : tabs [R] S) : S = R := by
  obtain ⟨h1, h2⟩ := tabs_spec h (fun x hx => by obtain rfl := List.mem_singleton.1 hx; exact hR)
  exact tb_ext h1 hR fun L t => by rw [h2]; simp only [List.findSome?_cons, List.findSome?_nil]; cases val R L t <;> rfl
theorem tabs_twice {R S : List Row} (hR : Tb R) (h : tabs [R, R] S) : S = R := by
  obtain ⟨h1, h2⟩ := tabs_spec h (all2 hR hR)
  exact tb_ext h1 hR fun L t => by rw [h2]; simp only [List.findSome?_cons, List.findSome?_nil]; cases val R L t <;> rfl
theorem tabs_none {R S : List Row} (hR : Tb R) (h : tabs [[], R, []] S) : S = R := by
  obtain ⟨h1, h2⟩ := tabs_spec h (all3 Tb.nil hR Tb.nil)
  exact tb_ext h1 hR fun L t => by rw [h2]; simp only [List.findSome?_cons, List.findSome?_nil, val_nil]; cases val R L t <;> rfl
theorem tabs_empty {S : List Row} (h : tabs [] S) : S = [] := by
  obtain ⟨h1, h2⟩ := tabs_spec h (fun x hx => by cases hx)
  exact tb_ext h1 Tb.nil fun L t => by rw [h2]; simp only [List.findSome?_nil, val_nil]
/-- tables whose values hang on labels and times alone -/
def Agr (F : List Pr → Int → Sm) (R : List Row) : Prop := ∀ L t x, val R L t = some x → x = F L t
theorem agr_find {F : List Pr → Int → Sm} {ls : List (List Row)} (h : ∀ R ∈ ls, Agr F R) (L : List Pr) (t : Int) : ls.findSome? (fun x => val x L t) = if (∃ R ∈ ls, val R L t ≠ none) then some (F L t) else none := by
  rcases hf : ls.findSome? (fun x => val x L t) with _ | y
  · rw [List.findSome?_eq_none_iff] at hf
    rw [if_neg]
    rintro ⟨R, hR, hne⟩
    exact hne (hf R hR)
  · obtain ⟨R, hR, hy⟩ := List.exists_of_findSome?_eq_some hf
    rw [if_pos ⟨R, hR, by rw [hy]; simp⟩, h R hR L t y hy]
theorem agr_tabs {F : List Pr → Int → Sm} {ls : List (List Row)} {S : List Row} (h : tabs ls S) (hl : ∀ x ∈ ls, Tb x) (ha : ∀ R ∈ ls, Agr F R) : Tb S ∧ Agr F S ∧ ∀ L t, val S L t = if (∃ R ∈ ls, val R L t ≠ none) then some (F L t) else none := by
  obtain ⟨h1, h2⟩ := tabs_spec h hl
  refine ⟨h1, fun L t x hx => ?_, fun L t => by rw [h2, agr_find ha]⟩
  rw [h2, agr_find ha] at hx
  split at hx
  · injection hx with hx; exact hx.symm
  · cases hx
theorem some_iff {F : Sm} {p : Prop} [Decidable p] : (if p then some F else none) ≠ none ↔ p := by split <;> simp_all
/-- any order, any brackets -/
theorem agr_orders {F : List Pr → Int → Sm} {x y z a b c d e f : List Row} (hx : Tb x) (hy : Tb y) (hz : Tb z) (ax : Agr F x) (ay : Agr F y) (az : Agr F z)
    (h1 : tabs [x, y, z] a) (h2 : tabs [z, x, y] b) (h3 : tabs [x, y] c) (h4 : tabs [c, z] d) (h5 : tabs [y, z] e) (h6 : tabs [x, e] f) : a = b ∧ a = d ∧ a = f := by
  obtain ⟨a1, _, a3⟩ := agr_tabs h1 (all3 hx hy hz) (all3 ax ay az)
  obtain ⟨b1, _, b3⟩ := agr_tabs h2 (all3 hz hx hy) (all3 az ax ay)
  obtain ⟨c1, c2, c3⟩ := agr_tabs h3 (all2 hx hy) (all2 ax ay)
  obtain ⟨d1, _, d3⟩ := agr_tabs h4 (all2 c1 hz) (all2 c2 az)
  obtain ⟨e1, e2, e3⟩ := agr_tabs h5 (all2 hy hz) (all2 ay az)
  obtain ⟨f1, _, f3⟩ := agr_tabs h6 (all2 hx e1) (all2 ax e2)
  refine ⟨tb_ext a1 b1 fun L t => ?_, tb_ext a1 d1 fun L t => ?_, tb_ext a1 f1 fun L t => ?_⟩
  · rw [a3, b3]
    congr 1
    simp only [List.mem_cons, List.not_mem_nil, or_false, exists_eq_or_imp, exists_eq_left, eq_iff_iff]
    constructor
    · rintro (h | h | h)
      · exact .inr (.inl h)
      · exact .inr (.inr h)
      · exact .inl h
    · rintro (h | h | h)
      · exact .inr (.inr h)
      · exact .inl h
      · exact .inr (.inl h)
  · rw [a3, d3]
    congr 1
    simp only [List.mem_cons, List.not_mem_nil, or_false, exists_eq_or_imp, exists_eq_left, eq_iff_iff]
    rw [c3, some_iff]
    simp only [List.mem_cons, List.not_mem_nil, or_false, exists_eq_or_imp, exists_eq_left, or_assoc]
  · rw [a3, f3]
    congr 1
    simp only [List.mem_cons, List.not_mem_nil, or_false, exists_eq_or_imp, exists_eq_left, eq_iff_iff]
    rw [e3, some_iff]
    simp only [List.mem_cons, List.not_mem_nil, or_false, exists_eq_or_imp, exists_eq_left]
theorem tabs_split {x S : List Row} {a b c : Int} (hx : Tb x) (h1 : a ≤ b) (h2 : b ≤ c) (h : tabs [betw x a b, betw x b c] S) : S = betw x a c := by
  obtain ⟨p1, p2⟩ := betw_spec a b hx
  obtain ⟨q1, q2⟩ := betw_spec b c hx
  obtain ⟨r1, r2⟩ := betw_spec a c hx
  obtain ⟨s1, s2⟩ := tabs_spec h (all2 p1 q1)
  refine tb_ext s1 r1 fun L t => ?_
  rw [s2, r2]
  simp only [List.findSome?_cons, List.findSome?_nil, p2, q2]
  have hd : ∀ p q : Int, (decide (p ≤ t) && decide (t < q)) = decide (p ≤ t ∧ t < q) := fun p q => by rw [Bool.decide_and]
  simp only [hd, decide_eq_true_eq]
  by_cases e1 : a ≤ t
  · by_cases e2 : t < b
    · rw [if_pos (⟨e1, e2⟩ : a ≤ t ∧ t < b), if_pos (⟨e1, by omega⟩ : a ≤ t ∧ t < c), if_neg (by omega : ¬ (b ≤ t ∧ t < c))]
      cases val x L t <;> rfl
    · rw [if_neg (by omega : ¬ (a ≤ t ∧ t < b))]
      by_cases e3 : t < c
      · rw [if_pos (⟨by omega, e3⟩ : b ≤ t ∧ t < c), if_pos (⟨e1, e3⟩ : a ≤ t ∧ t < c)]
        cases val x L t <;> rfl
      · rw [if_neg (by omega : ¬ (b ≤ t ∧ t < c)), if_neg (by omega : ¬ (a ≤ t ∧ t < c))]
  · rw [if_neg (by omega : ¬ (a ≤ t ∧ t < b)), if_neg (by omega : ¬ (b ≤ t ∧ t < c)), if_neg (by omega : ¬ (a ≤ t ∧ t < c))]
end Go.Bar.Mrg
