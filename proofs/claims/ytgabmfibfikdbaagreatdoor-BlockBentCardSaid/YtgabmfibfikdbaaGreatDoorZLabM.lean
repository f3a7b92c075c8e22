/-
  Plain mathematics of layer 6 (labels): no program in sight; no condition.
-/
import Derived.Test.YtgabmfibfikdbaaGreatDoorZLebM
import Derived.Test.YtgabmfibfikdbaaGreatDoorZLib4

namespace Go.Bar.Lab
open Go.RowKit Go.Bar Go.Bar.Leb

theorem less_eq : ∀ (x y : List UInt8), Op.bytesLess x y = decide (x < y)
  | [], [] => by simp [Op.bytesLess]
  | _ :: _, [] => by simp [Op.bytesLess]
  | [], _ :: _ => by simp [Op.bytesLess]
  | a :: x, b :: y => by
    rw [Op.bytesLess, less_eq x y]
    simp only [List.cons_lt_cons_iff]
    by_cases h1 : a < b <;> by_cases h2 : a = b <;> by_cases h3 : x < y <;> simp [h1, h2, h3]
theorem b_trans {a b c : List UInt8} (h : a < b) (k : b < c) : a < c := List.lt_trans h k
theorem b_irrefl (a : List UInt8) : ¬ a < a := List.lt_irrefl a
theorem b_asymm {a b : List UInt8} (h : a < b) : ¬ b < a := List.lt_asymm h
theorem b_tri {a b : List UInt8} (h : ¬ a < b) (k : ¬ b < a) : a = b := List.le_antisymm (List.not_lt.1 k) (List.not_lt.1 h)

/-- a pair: a name, and what it says -/
abbrev Pr := List UInt8 × List UInt8
def letter (c : UInt8) : Bool := decide (97 ≤ c ∧ c ≤ 122 ∨ 65 ≤ c ∧ c ≤ 90 ∨ c = 95)
def digit (c : UInt8) : Bool := decide (48 ≤ c ∧ c ≤ 57)
/-- may a byte stand in a name, at its first place or not? -/
def signB (first : Bool) (c : UInt8) : Bool := letter c || (!first && digit c)
def nameB (s : List UInt8) : Bool := !s.isEmpty && signB true (s.headD 0) && s.all (signB false) && decide (s.length ≤ 40)
def okP (p : Pr) : Bool := nameB p.1 && !p.2.isEmpty && decide (p.2.length ≤ 40)
/-- may they be a set? -/
def Ok (l : List Pr) : Prop := 0 < l.length ∧ l.length ≤ 8 ∧ (∀ p ∈ l, okP p = true) ∧ l.Pairwise (fun a b => a.1 < b.1)
instance (l : List Pr) : Decidable (Ok l) := by unfold Ok; infer_instance
def chk (l : List Pr) : Bool := decide (Ok l)
theorem chk_true {l : List Pr} (h : Ok l) : chk l = true := decide_eq_true h
theorem chk_false {l : List Pr} (h : ¬ Ok l) : chk l = false := decide_eq_false h
theorem chk_iff {l : List Pr} : chk l = true ↔ Ok l := decide_eq_true_iff

/-- a pair that may stand at its place -/
def good (l : List Pr) (i : Nat) : Prop := okP (l.getD i ([], [])) = true ∧ (0 < i → (l.getD (i - 1) ([], [])).1 < (l.getD i ([], [])).1)

theorem chain_lt {l : List Pr} (h : ∀ i, i < l.length → good l i) : ∀ (d i : Nat), i + d + 1 < l.length → (l.getD i ([], [])).1 < (l.getD (i + d + 1) ([], [])).1
  | 0, i, hi => by
    have := (h (i + 1) hi).2 (by omega)
    simpa using this
  | d + 1, i, hi => by
    have h1 := chain_lt h d i (by omega)
    have h2 := (h (i + d + 1 + 1) (by omega)).2 (by omega)
    rw [show i + d + 1 + 1 - 1 = i + d + 1 by omega] at h2
    exact b_trans h1 (by rw [show i + (d + 1) + 1 = i + d + 1 + 1 by omega]; exact h2)
theorem getD_of {α : Type} {l : List α} {i : Nat} (h : i < l.length) (d : α) : l.getD i d = l[i] := by
  rw [List.getD_eq_getElem?_getD, List.getElem?_eq_getElem h]; rfl
theorem ok_iff (l : List Pr) : Ok l ↔ 0 < l.length ∧ l.length ≤ 8 ∧ ∀ i, i < l.length → good l i := by
  constructor
  · rintro ⟨h1, h2, h3, h4⟩
    refine ⟨h1, h2, fun i hi => ⟨?_, fun h0 => ?_⟩⟩
    · rw [getD_of hi]; exact h3 _ (List.getElem_mem hi)
    · rw [getD_of hi, getD_of (by omega)]
      exact List.pairwise_iff_getElem.1 h4 (i - 1) i (by omega) hi (by omega)
  · rintro ⟨h1, h2, h3⟩
    refine ⟨h1, h2, fun p hp => ?_, ?_⟩
    · obtain ⟨i, hi, rfl⟩ := List.mem_iff_getElem.1 hp
      have := (h3 i hi).1
      rwa [getD_of hi] at this
    · refine List.pairwise_iff_getElem.2 fun i j hi hj hij => ?_
      have := chain_lt h3 (j - i - 1) i (by omega)
      rw [show i + (j - i - 1) + 1 = j by omega, getD_of hi, getD_of hj] at this
      exact this

/-! ### by rising names -/
def ins (p : Pr) : List Pr → List Pr
  | [] => [p]
  | q :: r => if p.1 < q.1 then p :: q :: r else q :: ins p r
def srt : List Pr → List Pr → List Pr
  | acc, [] => acc
  | acc, p :: r => srt (ins p acc) r
def sorted (l : List Pr) : List Pr := srt [] l
theorem ins_len (p : Pr) : ∀ l, (ins p l).length = l.length + 1
  | [] => rfl
  | q :: r => by
    unfold ins
    split
    · rfl
    · simp [ins_len p r]
theorem srt_len : ∀ (l acc : List Pr), (srt acc l).length = acc.length + l.length
  | [], _ => rfl
  | p :: l, acc => by rw [srt, srt_len l, ins_len, List.length_cons]; omega
theorem ins_perm (p : Pr) : ∀ l, (ins p l).Perm (p :: l)
  | [] => .refl _
  | q :: r => by
    unfold ins
    split
    · exact .refl _
    · exact ((ins_perm p r).cons q).trans (.swap p q r)
theorem srt_perm : ∀ (l acc : List Pr), (srt acc l).Perm (acc ++ l)
  | [], acc => by rw [List.append_nil]; exact .refl _
  | p :: l, acc => (srt_perm l _).trans (((ins_perm p acc).append_right l).trans (by
      rw [List.cons_append]
      exact List.perm_middle.symm))
theorem sorted_perm (l : List Pr) : (sorted l).Perm l := srt_perm l []
/-- not falling -/
def Asc (l : List Pr) : Prop := l.Pairwise (fun a b => ¬ b.1 < a.1)
theorem ins_asc (p : Pr) : ∀ l, Asc l → Asc (ins p l)
  | [], _ => by simp [ins, Asc]
  | q :: r, h => by
    have hq := List.pairwise_cons.1 h
    unfold ins
    split
    · rename_i hlt
      refine List.pairwise_cons.2 ⟨fun x hx => ?_, h⟩
      rcases List.mem_cons.1 hx with rfl | hx
      · exact b_asymm hlt
      · intro hxp
        exact hq.1 x hx (b_trans hxp hlt)
    · rename_i hlt
      refine List.pairwise_cons.2 ⟨fun x hx => ?_, ins_asc p r hq.2⟩
      rcases List.mem_cons.1 ((ins_perm p r).mem_iff.1 hx) with rfl | hx
      · exact hlt
      · exact hq.1 x hx
theorem srt_asc : ∀ (l acc : List Pr), Asc acc → Asc (srt acc l)
  | [], _, h => h
  | p :: l, acc, h => srt_asc l _ (ins_asc p acc h)
theorem sorted_asc (l : List Pr) : Asc (sorted l) := srt_asc l [] (by simp [Asc])
/-- has each name one pair alone? -/
def Unlike (l : List Pr) : Prop := (l.map Prod.fst).Nodup
instance (l : List Pr) : Decidable (Unlike l) := by unfold Unlike; infer_instance
theorem unlike_perm {l m : List Pr} (h : l.Perm m) : Unlike l ↔ Unlike m := (h.map Prod.fst).nodup_iff
theorem unlike_eq {l : List Pr} (h : Unlike l) {a b : Pr} (ha : a ∈ l) (hb : b ∈ l) (he : a.1 = b.1) : a = b := by
  induction l with
  | nil => cases ha
  | cons x l ih =>
    unfold Unlike at h
    rw [List.map_cons, List.nodup_cons] at h
    rcases List.mem_cons.1 ha with rfl | ha' <;> rcases List.mem_cons.1 hb with rfl | hb'
    · rfl
    · exact (h.1 (List.mem_map.2 ⟨_, hb', he.symm⟩)).elim
    · exact (h.1 (List.mem_map.2 ⟨_, ha', he⟩)).elim
    · exact ih h.2 ha' hb'
theorem asc_unique {l m : List Pr} (hp : l.Perm m) (hu : Unlike l) (hl : Asc l) (hm : Asc m) : l = m :=
  List.Perm.eq_of_pairwise (fun _ _ ha hb h1 h2 => unlike_eq hu ha (hp.mem_iff.2 hb) (b_tri h2 h1)) hl hm hp
theorem rise_unlike {l : List Pr} (h : l.Pairwise (fun a b => a.1 < b.1)) : Unlike l := by
  unfold Unlike
  rw [List.Nodup, List.pairwise_map]
  refine h.imp ?_
  rintro a b hlt he
  rw [he] at hlt
  exact b_irrefl _ hlt
/-- whatever order of equals a sort leaves: whether it may be a set hangs on the pairs alone -/
theorem ok_any {l m : List Pr} (hp : m.Perm l) (hm : Asc m) : Ok m ↔ Ok (sorted l) := by
  have hps := hp.trans (sorted_perm l).symm
  by_cases hu : Unlike m
  · rw [asc_unique hps hu hm (sorted_asc l)]
  · have hu2 : ¬ Unlike (sorted l) := fun h => hu ((unlike_perm hps).2 h)
    exact ⟨fun h => absurd (rise_unlike h.2.2.2) hu, fun h => absurd (rise_unlike h.2.2.2) hu2⟩
theorem chk_any {l m : List Pr} (hp : m.Perm l) (hm : Asc m) : chk m = chk (sorted l) := by
  unfold chk; rw [decide_eq_decide]; exact ok_any hp hm
theorem ok_unlike {l : List Pr} (h : Ok (sorted l)) : Unlike l := (unlike_perm (sorted_perm l)).1 (rise_unlike h.2.2.2)
theorem sorted_of {l m : List Pr} (hp : m.Perm l) (hm : Asc m) (hu : Unlike l) : m = sorted l :=
  asc_unique (hp.trans (sorted_perm l).symm) ((unlike_perm hp).2 hu) hm (sorted_asc l)

/-! ### what a name says, the bytes -/
def tx (l : List UInt8) : List UInt8 := u l.length ++ l
def key (l : List Pr) : List UInt8 := u l.length ++ l.flatMap fun p => tx p.1 ++ tx p.2
def one (p : Pr) : List UInt8 := p.1 ++ 61 :: p.2
def text : List Pr → List UInt8
  | [] => []
  | p :: r => one p ++ r.flatMap fun q => 44 :: one q

/-! ### taking -/
def tp : Nat → List UInt8 → List Pr × List UInt8 × Nat
  | 0, s => ([], s, 0)
  | n + 1, s => match takeText s 40 with
    | (a, s1, e1) => if e1 ≠ 0 then ([], [], e1) else match takeText s1 40 with
      | (b, s2, e2) => if e2 ≠ 0 then ([], [], e2) else match tp n s2 with
        | (l, r, e) => if e ≠ 0 then ([], [], e) else ((a, b) :: l, r, 0)
def take (s : List UInt8) : List Pr × List UInt8 × Nat := match takeMost s 8 with
  | (n, r, e) => if e ≠ 0 then ([], [], e) else match tp n r with
    | (l, r, e) => if e ≠ 0 then ([], [], e) else if chk l = true then (l, r, 0) else ([], [], 3)
theorem takeMost_le8 {s r : List UInt8} {n : Nat} (h : takeMost s 8 = (n, r, 0)) : n ≤ 8 := by
  unfold takeMost at h
  split at h
  · simp at h
  · rename_i hc
    have h1 : (takeU s).1 = n := by rw [h]
    have h2 : (takeU s).2.2 = 0 := by rw [h]
    rw [h1, h2] at hc
    simp at hc
    omega
theorem takeText_len {s l r : List UInt8} {most : Int} {e : Nat} (hm : most ≤ 9223372036854775807) (h : takeText s most = (l, r, e)) : l.length ≤ s.length ∧ r.length ≤ s.length := by
  have hp := (takeMost_prop s most hm).2.1
  unfold takeText at h
  split at h
  · simp only [Prod.mk.injEq] at h
    obtain ⟨rfl, rfl, _⟩ := h
    exact ⟨by simp, by simp⟩
  · split at h
    · simp only [Prod.mk.injEq] at h
      obtain ⟨rfl, rfl, _⟩ := h
      simp
    · simp only [Prod.mk.injEq] at h
      obtain ⟨rfl, rfl, _⟩ := h
      rw [List.length_take, List.length_drop]
      omega
theorem takeText_tx (l r : List UInt8) (h : l.length ≤ 40) : takeText (tx l ++ r) 40 = (l, r, 0) := by
  unfold tx
  exact takeText_text l r 40 (by omega) (by omega)
theorem tp_key : ∀ (l : List Pr) (r : List UInt8), (∀ p ∈ l, p.1.length ≤ 40 ∧ p.2.length ≤ 40) → tp l.length (l.flatMap (fun p => tx p.1 ++ tx p.2) ++ r) = (l, r, 0)
  | [], r, _ => rfl
  | p :: l, r, h => by
    have h1 := h p (by simp)
    have ih := tp_key l r (fun q hq => h q (by simp [hq]))
    rw [List.flatMap_cons, List.length_cons, tp, List.append_assoc, List.append_assoc, takeText_tx _ _ h1.1]
    simp only [ne_eq, not_true, if_false]
    rw [takeText_tx _ _ h1.2]
    simp only [not_true, if_false]
    rw [ih]
    simp
theorem okP_len {p : Pr} (h : okP p = true) : p.1.length ≤ 40 ∧ p.2.length ≤ 40 ∧ p.2 ≠ [] ∧ nameB p.1 = true := by
  unfold okP at h
  simp only [Bool.and_eq_true, decide_eq_true_eq, Bool.not_eq_true', List.isEmpty_eq_false_iff] at h
  have h1 := h.1.1
  unfold nameB at h1
  simp only [Bool.and_eq_true, decide_eq_true_eq] at h1
  exact ⟨h1.2, h.2, h.1.2, h.1.1⟩
theorem take_key {l : List Pr} (h : Ok l) (r : List UInt8) : take (key l ++ r) = (l, r, 0) := by
  unfold take key
  rw [List.append_assoc, takeMost_u _ _ 8 (by have := h.2.1; omega) (by have := h.2.1; omega)]
  simp only [ne_eq, not_true, if_false]
  rw [tp_key l r (fun p hp => ⟨(okP_len (h.2.2.1 p hp)).1, (okP_len (h.2.2.1 p hp)).2.1⟩)]
  simp [chk_true h]

/-! ### which comes first -/
def cmpB (a b : List UInt8) : Int := if a < b then -1 else if b < a then 1 else 0
def cmpP (p q : Pr) : Int := if cmpB p.1 q.1 ≠ 0 then cmpB p.1 q.1 else cmpB p.2 q.2
def cmpL : List Pr → List Pr → Int
  | [], [] => 0
  | [], _ :: _ => -1
  | _ :: _, [] => 1
  | p :: a, q :: b => if cmpP p q ≠ 0 then cmpP p q else cmpL a b
theorem cmpB_zero {a b : List UInt8} : cmpB a b = 0 ↔ a = b := by
  unfold cmpB
  constructor
  · intro h
    split at h
    · simp at h
    · split at h
      · simp at h
      · exact b_tri (by assumption) (by assumption)
  · rintro rfl
    rw [if_neg (b_irrefl _), if_neg (b_irrefl _)]
theorem cmpB_neg (a b : List UInt8) : cmpB b a = - cmpB a b := by
  unfold cmpB
  by_cases h1 : a < b
  · rw [if_pos h1, if_neg (b_asymm h1), if_pos h1]; rfl
  · by_cases h2 : b < a
    · rw [if_pos h2, if_neg h1, if_pos h2]
    · rw [if_neg h2, if_neg h1, if_neg h1, if_neg h2]; rfl
theorem cmpB_lt {a b : List UInt8} : cmpB a b < 0 ↔ a < b := by
  unfold cmpB
  by_cases h1 : a < b
  · rw [if_pos h1]; simp [h1]
  · rw [if_neg h1]
    by_cases h2 : b < a
    · rw [if_pos h2]; simp [h1]
    · rw [if_neg h2]; simp [h1]
theorem cmpB_three (a b : List UInt8) : cmpB a b = -1 ∨ cmpB a b = 0 ∨ cmpB a b = 1 := by
  unfold cmpB
  repeat' split
  all_goals simp
theorem cmpP_zero {p q : Pr} : cmpP p q = 0 ↔ p = q := by
  unfold cmpP
  constructor
  · intro h
    split at h
    · contradiction
    · rename_i h1
      have h1 : cmpB p.1 q.1 = 0 := by omega
      exact Prod.ext (cmpB_zero.1 h1) (cmpB_zero.1 h)
  · rintro rfl
    rw [if_neg (by rw [cmpB_zero.2 rfl]; simp), cmpB_zero.2 rfl]
theorem cmpP_neg (p q : Pr) : cmpP q p = - cmpP p q := by
  unfold cmpP
  rw [cmpB_neg p.1 q.1, cmpB_neg p.2 q.2]
  split <;> split <;> omega
theorem cmpP_three (a b : Pr) : cmpP a b = -1 ∨ cmpP a b = 0 ∨ cmpP a b = 1 := by unfold cmpP; split <;> exact cmpB_three _ _
theorem cmpP_trans {p q r : Pr} (h : cmpP p q < 0) (k : cmpP q r < 0) : cmpP p r < 0 := by
  unfold cmpP at *
  by_cases h1 : cmpB p.1 q.1 = 0
  · rw [if_neg (by omega)] at h
    rw [cmpB_zero.1 h1]
    by_cases h2 : cmpB q.1 r.1 = 0
    · rw [if_neg (by omega)] at k ⊢
      exact cmpB_lt.2 (b_trans (cmpB_lt.1 h) (cmpB_lt.1 k))
    · rw [if_pos h2] at k ⊢
      exact k
  · rw [if_pos h1] at h
    by_cases h2 : cmpB q.1 r.1 = 0
    · rw [← cmpB_zero.1 h2, if_pos h1]
      exact h
    · rw [if_pos h2] at k
      have := cmpB_lt.2 (b_trans (cmpB_lt.1 h) (cmpB_lt.1 k))
      rw [if_pos (by omega)]
      exact this
theorem cmpL_three : ∀ (a b : List Pr), cmpL a b = -1 ∨ cmpL a b = 0 ∨ cmpL a b = 1
  | [], [] => by simp [cmpL]
  | [], _ :: _ => by simp [cmpL]
  | _ :: _, [] => by simp [cmpL]
  | p :: a, q :: b => by
    unfold cmpL
    split
    · exact cmpP_three p q
    · exact cmpL_three a b
theorem cmpL_neg : ∀ (a b : List Pr), cmpL b a = - cmpL a b
  | [], [] => rfl
  | [], _ :: _ => rfl
  | _ :: _, [] => rfl
  | p :: a, q :: b => by
    unfold cmpL
    rw [cmpP_neg p q, cmpL_neg a b]
    split <;> split <;> omega
theorem cmpL_zero : ∀ {a b : List Pr}, cmpL a b = 0 ↔ a = b
  | [], [] => by simp [cmpL]
  | [], _ :: _ => by simp [cmpL]
  | _ :: _, [] => by simp [cmpL]
  | p :: a, q :: b => by
    unfold cmpL
    by_cases h : cmpP p q = 0
    · rw [if_neg (by omega), cmpL_zero (a := a) (b := b), cmpP_zero.1 h]; simp
    · rw [if_pos h]
      constructor
      · intro h2; exact absurd h2 h
      · intro h2; injection h2 with h2 _; exact absurd (cmpP_zero.2 h2) h
theorem cmpL_trans : ∀ {a b c : List Pr}, cmpL a b ≤ 0 → cmpL b c ≤ 0 → cmpL a c ≤ 0
  | [], _, [] => by simp [cmpL]
  | [], _, _ :: _ => by simp [cmpL]
  | _ :: _, [], _ => by simp [cmpL]
  | _ :: _, _ :: _, [] => by simp [cmpL]
  | p :: a, q :: b, r :: c => by
    unfold cmpL
    intro h k
    by_cases h1 : cmpP p q = 0
    · rw [if_neg (by omega)] at h
      rw [cmpP_zero.1 h1]
      by_cases h2 : cmpP q r = 0
      · rw [if_neg (by omega)] at k ⊢
        exact cmpL_trans h k
      · rw [if_pos h2] at k ⊢
        exact k
    · rw [if_pos h1] at h
      by_cases h2 : cmpP q r = 0
      · rw [← cmpP_zero.1 h2, if_pos h1]
        exact h
      · rw [if_pos h2] at k
        have := cmpP_trans (p := p) (q := q) (r := r) (by omega) (by omega)
        rw [if_pos (by omega)]
        omega

/-! ### keys are keys -/

/-! ### a text as a set -/
def commas : List UInt8 → List (List UInt8)
  | [] => [[]]
  | c :: r => if c = 44 then [] :: commas r else match commas r with
    | [] => [[c]]
    | h :: t => (c :: h) :: t
def cutEq : List UInt8 → Option Pr
  | [] => none
  | c :: r => if c = 61 then some ([], r) else (cutEq r).map fun p => (c :: p.1, p.2)
def pairsOf : List (List UInt8) → Option (List Pr)
  | [] => some []
  | s :: r => match cutEq s with
    | none => none
    | some p => (pairsOf r).map (p :: ·)
def parse (s : List UInt8) : List Pr × Nat := match pairsOf (commas s) with
  | none => ([], 3)
  | some l => if chk (sorted l) = true then (sorted l, 0) else ([], 12)
theorem commas_none : ∀ (s : List UInt8), 44 ∉ s → commas s = [s]
  | [], _ => rfl
  | c :: r, h => by
    rw [commas, if_neg (fun e => h (by simp [e])), commas_none r (fun hr => h (by simp [hr]))]
theorem commas_at : ∀ (a b : List UInt8), 44 ∉ a → commas (a ++ 44 :: b) = a :: commas b
  | [], b, _ => by rw [List.nil_append, commas, if_pos rfl]
  | c :: a, b, h => by
    rw [List.cons_append, commas, if_neg (fun e => h (by simp [e])), commas_at a b (fun hr => h (by simp [hr]))]
theorem cutEq_at : ∀ (a b : List UInt8), 61 ∉ a → cutEq (a ++ 61 :: b) = some (a, b)
  | [], b, _ => by rw [List.nil_append, cutEq, if_pos rfl]
  | c :: a, b, h => by
    rw [List.cons_append, cutEq, if_neg (fun e => h (by simp [e])), cutEq_at a b (fun hr => h (by simp [hr]))]
    rfl
theorem cutEq_none : ∀ (a : List UInt8), 61 ∉ a → cutEq a = none
  | [], _ => rfl
  | c :: a, h => by
    rw [cutEq, if_neg (fun e => h (by simp [e])), cutEq_none a (fun hr => h (by simp [hr]))]
    rfl

end Go.Bar.Lab

/-
  Layer 14: plain theory of tables of rows: events in order, groups; several tables as one.
-/
namespace Go.Bar.Mrg
open Go.RowKit Go.Bar Go.Bar.Xor Go.Bar.Lab

/-- a row: its labels, its samples -/
abbrev Row := List Pr × List Sm
/-- a row of a table -/
abbrev Ev := Row × Nat
theorem cmpL_self (a : List Pr) : cmpL a a = 0 := cmpL_zero.2 rfl
theorem cmpL_lt_trans {a b c : List Pr} (h : cmpL a b < 0) (k : cmpL b c < 0) : cmpL a c < 0 := by
  have h1 := cmpL_trans (a := a) (b := b) (c := c) (by omega) (by omega)
  by_cases e : cmpL a c = 0
  · have e2 := cmpL_zero.1 e
    subst e2
    have := cmpL_neg a b
    omega
  · omega
/-- the table that they come to: complete rows, then the labels and the parts under way -/
structure Grp where
  done : List Row
  cur : Option (List Pr × List (List Sm))
def Grp.add (g : Grp) (r : Row) : Grp := match g.cur with
  | none => ⟨g.done, some (r.1, [r.2])⟩
  | some (L, ps) => if L = r.1 then ⟨g.done, some (L, ps ++ [r.2])⟩ else ⟨g.done ++ [(L, smp ps)], some (r.1, [r.2])⟩

/-- rows by rising labels -/
def Rls (l : List Row) : Prop := l.Pairwise (fun a b => cmpL a.1 b.1 < 0)
/-- the samples of labels -/
def rk (l : List Row) (L : List Pr) : Option (List Sm) := (l.find? (fun r => decide (r.1 = L))).map (·.2)
theorem rk_cons (r : Row) (l : List Row) (L : List Pr) : rk (r :: l) L = if r.1 = L then some r.2 else rk l L := by
  unfold rk
  rw [List.find?_cons]
  by_cases h : r.1 = L
  · rw [if_pos h, decide_eq_true h]; rfl
  · rw [if_neg h, decide_eq_false h]
theorem rk_none {l : List Row} {L : List Pr} : rk l L = none ↔ ∀ r ∈ l, r.1 ≠ L := by
  unfold rk
  rw [Option.map_eq_none_iff, List.find?_eq_none]
  simp

/-! ### what the groups say -/
/-- the samples of labels among events, in their order -/
def partsOf (S : List Ev) (L : List Pr) : List (List Sm) := (S.filter (fun x => decide (x.1.1 = L))).map (·.1.2)
theorem partsOf_snoc (S : List Ev) (x : Ev) (L : List Pr) : partsOf (S ++ [x]) L = partsOf S L ++ (if x.1.1 = L then [x.1.2] else []) := by
  unfold partsOf
  rw [List.filter_append, List.map_append]
  congr 1
  by_cases h : x.1.1 = L
  · rw [if_pos h]; simp [h]
  · rw [if_neg h]; simp [h]
/-- what a group under way is -/
structure GInv (S : List Ev) (g : Grp) : Prop where
  cur : ∀ L ps, g.cur = some (L, ps) → ps = partsOf S L ∧ ps ≠ [] ∧ (∀ r ∈ g.done, cmpL r.1 L < 0) ∧ ∀ x ∈ S, cmpL x.1.1 L ≤ 0
  none_ : g.cur = none → S = [] ∧ g.done = []
  rls : Rls g.done
  say : ∀ r ∈ g.done, r.2 = smp (partsOf S r.1) ∧ partsOf S r.1 ≠ []
  all : ∀ x ∈ S, (∃ r ∈ g.done, r.1 = x.1.1) ∨ ∃ ps, g.cur = some (x.1.1, ps)
theorem GInv.start : GInv [] ⟨[], none⟩ := ⟨fun _ _ h => (by cases h), fun _ => ⟨rfl, rfl⟩, List.Pairwise.nil, fun _ h => (by simp at h), fun _ h => (by simp at h)⟩
theorem GInv.step {S : List Ev} {g : Grp} {x : Ev} (h : GInv S g) (hx : ∀ y ∈ S, cmpL y.1.1 x.1.1 ≤ 0) : GInv (S ++ [x]) (g.add x.1) := by
  obtain ⟨done, cur⟩ := g
  rcases cur with _ | ⟨L, ps⟩
  · obtain ⟨rfl, hd⟩ := h.none_ rfl
    have hd : done = [] := hd
    subst hd
    refine ⟨fun L ps he => ?_, fun he => (by cases he), List.Pairwise.nil, fun r hr => (by simp [Grp.add] at hr), fun y hy => .inr ?_⟩
    · have he : some (x.1.1, [x.1.2]) = some (L, ps) := he
      injection he with he
      injection he with h1 h2
      subst h1; subst h2
      refine ⟨by rw [partsOf_snoc, if_pos rfl]; rfl, by simp, fun r hr => (by simp [Grp.add] at hr), fun y hy => ?_⟩
      rcases List.mem_append.1 hy with hy | hy
      · exact hx y hy
      · obtain rfl := List.mem_singleton.1 hy
        rw [cmpL_self]; omega
    · obtain rfl : y = x := by simpa using hy
      exact ⟨_, rfl⟩
  · obtain ⟨c1, c2, c3, c4⟩ := h.cur L ps rfl
    by_cases e : L = x.1.1
    · have ha : (Grp.mk done (some (L, ps))).add x.1 = ⟨done, some (L, ps ++ [x.1.2])⟩ := if_pos e
      rw [ha]
      have hds : ∀ r ∈ done, r.1 ≠ x.1.1 := fun r hr he => by
        have := c3 r hr
        rw [he, e, cmpL_self] at this
        omega
      refine ⟨fun L' ps' he => ?_, fun he => (by cases he), h.rls, fun r hr => ?_, fun y hy => ?_⟩
      · injection he with he
        injection he with h1 h2
        subst h1; subst h2
        refine ⟨by rw [partsOf_snoc, if_pos e.symm, ← c1], by simp, c3, fun y hy => ?_⟩
        rcases List.mem_append.1 hy with hy | hy
        · exact c4 y hy
        · obtain rfl := List.mem_singleton.1 hy
          rw [e, cmpL_self]; omega
      · rw [partsOf_snoc, if_neg (fun h => hds r hr h.symm), List.append_nil]
        exact h.say r hr
      · rcases List.mem_append.1 hy with hy | hy
        · rcases h.all y hy with h1 | ⟨ps', h1⟩
          · exact .inl h1
          · right
            injection h1 with h1
            injection h1 with h1 _
            exact ⟨_, by rw [h1]⟩
        · obtain rfl := List.mem_singleton.1 hy
          exact .inr ⟨_, by rw [e]⟩
    · have ha : (Grp.mk done (some (L, ps))).add x.1 = ⟨done ++ [(L, smp ps)], some (x.1.1, [x.1.2])⟩ := if_neg e
      rw [ha]
      have hmem : ∃ y ∈ S, y.1.1 = L := by
        rcases hp : S.filter (fun y => decide (y.1.1 = L)) with _ | ⟨y, r⟩
        · exact absurd (by rw [c1]; unfold partsOf; rw [hp]; rfl) c2
        · have : y ∈ S.filter (fun y => decide (y.1.1 = L)) := by rw [hp]; simp
          exact ⟨y, (List.mem_filter.1 this).1, of_decide_eq_true (List.mem_filter.1 this).2⟩
      have hlt : cmpL L x.1.1 < 0 := by
        obtain ⟨y, hy, rfl⟩ := hmem
        have h1 := hx y hy
        by_cases h0 : cmpL y.1.1 x.1.1 = 0
        · exact absurd (cmpL_zero.1 h0) e
        · omega
      have hnew : ∀ y ∈ S, y.1.1 ≠ x.1.1 := fun y hy he => by
        have := c4 y hy
        rw [he] at this
        have := cmpL_neg L x.1.1
        omega
      have hpx : partsOf S x.1.1 = [] := by
        unfold partsOf
        rw [List.filter_eq_nil_iff.2 fun y hy => by simpa using hnew y hy]; rfl
      refine ⟨fun L' ps' he => ?_, fun he => (by cases he), ?_, fun r hr => ?_, fun y hy => ?_⟩
      · injection he with he
        injection he with h1 h2
        subst h1; subst h2
        refine ⟨by rw [partsOf_snoc, if_pos rfl, hpx]; rfl, by simp, fun r hr => ?_, fun y hy => ?_⟩
        · rcases List.mem_append.1 hr with hr | hr
          · exact cmpL_lt_trans (c3 r hr) hlt
          · obtain rfl := List.mem_singleton.1 hr
            exact hlt
        · rcases List.mem_append.1 hy with hy | hy
          · exact hx y hy
          · obtain rfl := List.mem_singleton.1 hy
            rw [cmpL_self]; omega
      · refine List.pairwise_append.2 ⟨h.rls, List.pairwise_singleton _ _, fun a ha b hb => ?_⟩
        obtain rfl := List.mem_singleton.1 hb
        exact c3 a ha
      · have hne : r.1 ≠ x.1.1 := fun he => by
          rcases List.mem_append.1 hr with hr | hr
          · have := cmpL_lt_trans (c3 r hr) hlt
            rw [he, cmpL_self] at this; omega
          · obtain rfl := List.mem_singleton.1 hr
            exact e he
        rw [partsOf_snoc, if_neg (fun h => hne h.symm), List.append_nil]
        rcases List.mem_append.1 hr with hr | hr
        · exact h.say r hr
        · obtain rfl := List.mem_singleton.1 hr
          exact ⟨by show smp ps = _; rw [c1], by rw [← c1]; exact c2⟩
      · rcases List.mem_append.1 hy with hy | hy
        · left
          rcases h.all y hy with ⟨r, hr, h1⟩ | ⟨ps', h1⟩
          · exact ⟨r, List.mem_append_left _ hr, h1⟩
          · injection h1 with h1
            injection h1 with h1 _
            exact ⟨(L, smp ps), by simp, h1⟩
        · obtain rfl := List.mem_singleton.1 hy
          exact .inr ⟨_, rfl⟩

/-! ### the parts of labels, in the tables' order -/
end Go.Bar.Mrg
