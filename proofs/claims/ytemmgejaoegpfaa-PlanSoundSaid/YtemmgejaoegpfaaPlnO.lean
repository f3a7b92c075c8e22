/-
  Layer 20: plain laws: what a plan is (PlanSound).
-/
import Derived.Test.YtemmgejaoegpfaaPlnM
namespace Go.Bar.Pln
open Go.RowKit Go.Bar Go.Bar.Leb Go.Bar.Frm Go.Bar.Idt Go.Bar.Met

def bytes : List Mt → Int
  | [] => 0
  | m :: r => size m + bytes r
theorem bytes_append (l r : List Mt) : bytes (l ++ r) = bytes l + bytes r := by
  induction l with
  | nil => simp [bytes]
  | cons m l ih =>
    show size m + bytes (l ++ r) = size m + bytes l + bytes r
    rw [ih]; omega
/-- a plan under way -/
structure PInv (p : Pl) (b : Int) : Prop where
  lo : ∀ m ∈ p.ms, p.fr ≤ m.mn ∧ m.mx ≤ p.to_ ∧ m.lv ≤ p.lv
  at_ : p.ms ≠ [] → (∃ m ∈ p.ms, p.fr = m.mn) ∧ ∃ m ∈ p.ms, p.to_ = m.mx
  sum : bytes p.ms = b
  most : bytes p.ms ≤ 262144
  len : p.ms.length ≤ 20
theorem PInv.start : PInv pl0 0 := ⟨by simp [pl0], by simp [pl0], rfl, by decide, by decide⟩
theorem PInv.add {p : Pl} {b : Int} {m : Mt} (h : PInv p b) (hm : b + size m ≤ 262144) (hl : p.ms.length ≠ 20) : PInv (add p m) (b + size m) := by
  have hs : bytes (p.ms ++ [m]) = b + size m := by rw [bytes_append, h.sum]; simp [bytes]
  refine ⟨fun x hx => ?_, fun _ => ?_, hs, by show bytes (p.ms ++ [m]) ≤ _; rw [hs]; exact hm, by show (p.ms ++ [m]).length ≤ 20; have := h.len; simp; omega⟩
  · have hx : x ∈ p.ms ++ [m] := hx
    show min (if p.ms.length = 0 then m.mn else p.fr) m.mn ≤ x.mn ∧ x.mx ≤ max (if p.ms.length = 0 then m.mx else p.to_) m.mx ∧ x.lv ≤ max p.lv m.lv
    rcases List.mem_append.1 hx with hx | hx
    · have hne : p.ms.length ≠ 0 := fun e => by rw [List.eq_nil_of_length_eq_zero e] at hx; simp at hx
      rw [if_neg hne, if_neg hne]
      have := h.lo x hx
      omega
    · obtain rfl := List.mem_singleton.1 hx
      omega
  · show (∃ x ∈ p.ms ++ [m], min (if p.ms.length = 0 then m.mn else p.fr) m.mn = x.mn) ∧ ∃ x ∈ p.ms ++ [m], max (if p.ms.length = 0 then m.mx else p.to_) m.mx = x.mx
    by_cases h0 : p.ms.length = 0
    · rw [if_pos h0, if_pos h0]
      exact ⟨⟨m, by simp, by omega⟩, m, by simp, by omega⟩
    · rw [if_neg h0, if_neg h0]
      obtain ⟨⟨x, hx, ex⟩, y, hy, ey⟩ := h.at_ (fun e => h0 (by rw [e]; rfl))
      constructor
      · by_cases e : p.fr ≤ m.mn
        · exact ⟨x, by simp [hx], by omega⟩
        · exact ⟨m, by simp, by omega⟩
      · by_cases e : m.mx ≤ p.to_
        · exact ⟨y, by simp [hy], by omega⟩
        · exact ⟨m, by simp, by omega⟩
theorem ofGo_inv : ∀ (l : List Mt) (b s a : Int) (p : Pl), PInv p b → (∃ b', PInv (ofGo l b s a p) b') ∧ ∃ t, t.Sublist l ∧ (ofGo l b s a p).ms = p.ms ++ t
  | [], b, s, a, p, h => ⟨⟨b, h⟩, [], .slnil, by simp [ofGo]⟩
  | m :: l, b, s, a, p, h => by
    unfold ofGo
    split
    · exact ⟨⟨b, h⟩, [], List.nil_sublist _, by simp⟩
    · rename_i ho
      unfold over at ho
      have h1 : b + size m ≤ 262144 := by
        by_cases e : 262144 < b + size m
        · exact absurd (.inl e) ho
        · omega
      have h2 : p.ms.length ≠ 20 := fun e => ho (.inr (.inr (.inr e)))
      obtain ⟨g1, t, ht, e⟩ := ofGo_inv l (b + size m) (s + m.sr) (a + m.sm) (add p m) (h.add h1 h2)
      exact ⟨g1, m :: t, ht.cons_cons m, by rw [e]; show p.ms ++ [m] ++ t = _; simp⟩
/-- the plan of a group -/
theorem of_inv (l : List Mt) : (∃ b, PInv { of l with lv := (ofGo l 0 0 0 pl0).lv } b) ∧ (of l).ms.Sublist l ∧ (of l).lv = min ((ofGo l 0 0 0 pl0).lv + 1) 9 := by
  obtain ⟨g1, t, ht, e⟩ := ofGo_inv l 0 0 0 pl0 PInv.start
  refine ⟨g1, ?_, rfl⟩
  show (ofGo l 0 0 0 pl0).ms.Sublist l
  rw [e]
  exact ht

theorem base_dvd (m : Mt) (wide : Int) : ∃ k, base m wide = k * wide := ⟨m.mn.tdiv wide, by
  unfold base
  have := Int.tmod_add_mul_tdiv m.mn wide
  rw [Int.mul_comm] at this
  omega⟩
/-- numbers of one range -/
theorem same_range {k wide x y wd : Int} (hw : 0 < wd) (hwide : wide = wd * 3 ∨ wide = wd * 9) (hx : k * wide ≤ x) (hxy : x ≤ y) (hy : y < k * wide + wide) (h0 : 0 ≤ x) : x.tdiv (9 * wd) = y.tdiv (9 * wd) := by
  have hwp : 0 < wide := by rcases hwide with h | h <;> omega
  rw [Int.tdiv_eq_ediv_of_nonneg h0, Int.tdiv_eq_ediv_of_nonneg (by omega)]
  have h1 : ∀ z, k * wide ≤ z → z < k * wide + wide → z / wide = k := fun z h1 h2 => by
    have a1 : k ≤ z / wide := Int.le_ediv_of_mul_le hwp h1
    have a2 : z / wide < k + 1 := Int.ediv_lt_of_lt_mul hwp (by rw [Int.add_mul]; omega)
    omega
  have e1 := h1 x hx (by omega)
  have e2 := h1 y (by omega) hy
  rcases hwide with h | h
  · have h3 : 9 * wd = wide * 3 := by omega
    rw [h3, ← Int.ediv_ediv_of_nonneg (by omega), ← Int.ediv_ediv_of_nonneg (by omega), e1, e2]
  · rw [show 9 * wd = wide by omega, e1, e2]
theorem tryP_some {F : List Mt} {wide : Int} {i : Nat} {p : Pl} (h : tryP F wide i = some p) : p = of (group F wide i) ∧ 1 < p.ms.length := by
  unfold tryP at h
  split at h
  · rename_i h1
    injection h with h
    subst h
    exact ⟨rfl, h1⟩
  · cases h
theorem nextOf_some {F : List Mt} {wd : Int} {p : Pl} (hw : 1 ≤ wd) (h : nextOf F wd = some p) : ∃ wide i, (wide = wd * 3 ∨ wide = wd * 9) ∧ p = of (group F wide i) ∧ 1 < p.ms.length := by
  unfold nextOf at h
  rw [Int.max_eq_left hw] at h
  have hh : ∀ wide, nextIn F wide = some p → ∃ i, p = of (group F wide i) ∧ 1 < p.ms.length := fun wide hn => by
    unfold nextIn at hn
    obtain ⟨i, _, hi⟩ := List.exists_of_findSome?_eq_some hn
    exact ⟨i, tryP_some hi⟩
  rcases h3 : nextIn F (wd * 3) with _ | p3
  · rw [h3, Option.none_or] at h
    obtain ⟨i, h1, h2⟩ := hh _ h
    exact ⟨_, i, .inr rfl, h1, h2⟩
  · rw [h3, Option.some_or] at h
    injection h with h
    subst h
    obtain ⟨i, h1, h2⟩ := hh _ h3
    exact ⟨_, i, .inl rfl, h1, h2⟩
/-- what a plan is -/
structure Sound (L : List Mt) (mk : Marks) (wd : Int) (p : Pl) : Prop where
  mem : ∀ m ∈ p.ms, m ∈ L ∧ gone L m.id = 0 ∧ mk m.id = none ∧ p.fr ≤ m.mn ∧ m.mx ≤ p.to_
  most : bytes p.ms ≤ 262144
  two : 1 < p.ms.length
  len : p.ms.length ≤ 20
  rng : p.fr.tdiv (9 * wd) = (p.to_ - 1).tdiv (9 * wd)
  lv : 2 ≤ p.lv ∧ p.lv ≤ 9
  ap : Apart p.ms
  fr : 0 ≤ p.fr ∧ p.fr < p.to_ ∧ p.to_ ≤ 1000000
theorem sound {L : List Mt} {mk : Marks} {wd : Int} {p : Pl} (hL : Lst L) (hmx : ∀ m ∈ L, m.mn < m.mx ∧ 1 ≤ m.lv) (hw : 1 ≤ wd) (h : next L mk wd = some p) : Sound L mk wd p := by
  obtain ⟨wide, i, hwide, hp, h2⟩ := nextOf_some hw h
  obtain ⟨⟨b, hI⟩, hsub, hlv⟩ := of_inv (group (free L mk) wide i)
  rw [← hp] at hI hsub hlv
  have hgm : ∀ m ∈ p.ms, m ∈ group (free L mk) wide i := fun m hm => hsub.subset hm
  have hfm : ∀ m ∈ p.ms, m ∈ free L mk := fun m hm => List.mem_of_mem_drop (List.mem_filter.1 (hgm m hm)).1
  have hne : p.ms ≠ [] := fun e => by rw [e] at h2; simp at h2
  obtain ⟨⟨x, hx, ex⟩, y, hy, ey⟩ := hI.at_ hne
  have ex : p.fr = x.mn := ex
  have ey : p.to_ = y.mx := ey
  have hlo : ∀ m ∈ p.ms, p.fr ≤ m.mn ∧ m.mx ≤ p.to_ ∧ m.lv ≤ (ofGo (group (free L mk) wide i) 0 0 0 pl0).lv := hI.lo
  obtain ⟨k, hk⟩ := base_dvd ((free L mk).getD i ⟨[], 0, 0, 0, 0, 0, [], []⟩) wide
  have hin : ∀ m ∈ p.ms, base m wide = k * wide ∧ m.mx ≤ k * wide + wide := fun m hm => by
    have h1 := (List.mem_filter.1 (hgm m hm)).2
    unfold inG at h1
    rw [Bool.and_eq_true, decide_eq_true_eq, decide_eq_true_eq, hk] at h1
    exact h1
  have hxL := (free_mem (hfm x hx)).1
  have hyL := (free_mem (hfm y hy)).1
  have hsx := hL.sm x hxL
  have hsy := hL.sm y hyL
  have hbx : base x wide ≤ x.mn := by
    unfold base
    have := Int.tmod_nonneg wide hsx.mn.1
    omega
  have g1 := hin x hx
  have g2 := hin y hy
  have g3 := hlo x hx
  have g4 := (hmx x hxL).1
  have hap : Apart (free L mk) := by
    have ha := asc_apart (freeU_asc mk hL)
    exact (srt_perm (freeU L mk)).pairwise_iff (R := fun a b : Mt => a.id ≠ b.id) (fun h e => h e.symm) |>.2 ha
  refine ⟨fun m hm => ?_, hI.most, h2, hI.len, ?_, ?_, ?_, ?_⟩
  · obtain ⟨a1, a2, a3⟩ := free_mem (hfm m hm)
    exact ⟨a1, a2, a3, (hlo m hm).1, (hlo m hm).2.1⟩
  · exact same_range (k := k) (wide := wide) (by omega) hwide (by omega) (by omega) (by omega) (by have := hsx.mn; omega)
  · have := (hmx x hxL).2
    rw [hlv]
    omega
  · exact hap.sublist (hsub.trans ((List.filter_sublist).trans (List.drop_sublist _ _)))
  · have := hsx.mn; have := hsy.mx
    omega
end Go.Bar.Pln
