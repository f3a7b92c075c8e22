/-
  Plain mathematics of samples that go through chunks: no program in sight; no condition.
-/
import Derived.Test.YtkdligefhofndaaDoorChkB
namespace Go.Proofs.YtkdligefhofndaaDoor
open Go.RowKit Go.Bar Go.Bar.Leb Go.Bar.Bit Go.Bar.Frm Go.Bar.Xor

theorem put_n (s : St) (x : Sm) : (s.put x).n = s.n + 1 ∧ (s.put x).t = x.1 := by
  unfold St.put
  split
  · rename_i h; exact ⟨by simp [h], rfl⟩
  · exact ⟨rfl, rfl⟩
theorem ofS_rises : ∀ (l : List Sm) (s : St), l.Pairwise (fun a b => a.1 < b.1) → (∀ x ∈ l, 0 ≤ x.1 ∧ x.1 ≤ 1099511627776) → s.n + l.length ≤ 120 → (0 < s.n → ∀ x ∈ l, s.t < x.1) → (ofS s l).2 = 0
  | [], _, _, _, _, _ => rfl
  | x :: l, s, h, hb, hn, ht => by
    rw [List.length_cons] at hn
    obtain ⟨b1, b2⟩ := hb x (by simp)
    have he : err s x = 0 := by
      unfold err
      rw [if_neg (by omega), if_neg (by rintro ⟨h1, h2⟩; have := ht h1 x (by simp); omega), if_neg (by omega)]
    rw [ofS, if_pos he]
    obtain ⟨p1, p2⟩ := put_n s x
    have hp := List.pairwise_cons.1 h
    exact ofS_rises l (s.put x) hp.2 (fun y hy => hb y (by simp [hy])) (by omega) (fun _ y hy => by rw [p2]; exact hp.1 y hy)

/-- the samples -/
def smp (X : Nat → Nat) (st : Int) (i : Nat) : Sm := ((i : Int) * st, X i)
def sL (X : Nat → Nat) (st : Int) (n : Nat) : List Sm := (List.range n).map (smp X st)
theorem sL_len (X : Nat → Nat) (st : Int) (n : Nat) : (sL X st n).length = n := by unfold sL; rw [List.length_map, List.length_range]
theorem sL_succ (X : Nat → Nat) (st : Int) (n : Nat) : sL X st (n + 1) = sL X st n ++ [smp X st n] := by unfold sL; rw [List.range_succ, List.map_append]; rfl
theorem sL_rise (X : Nat → Nat) {st : Int} (h : 1 ≤ st) (n : Nat) : (sL X st n).Pairwise (fun a b => a.1 < b.1) := by
  unfold sL
  rw [List.pairwise_map]
  refine List.pairwise_lt_range.imp ?_
  intro a b hab
  show (a : Int) * st < (b : Int) * st
  exact Int.mul_lt_mul_of_pos_right (by omega) (by omega)
theorem sL_mem {X : Nat → Nat} {st : Int} {n : Nat} {x : Sm} (h : x ∈ sL X st n) : ∃ i, i < n ∧ x = smp X st i := by
  unfold sL at h
  obtain ⟨i, hi, rfl⟩ := List.mem_map.1 h
  exact ⟨i, List.mem_range.1 hi, rfl⟩
theorem smp_rng {X : Nat → Nat} {st : Int} {n i : Nat} (h1 : 1 ≤ st) (h2 : st ≤ 1048576) (hi : i < n) (hn : n ≤ 400) : 0 ≤ (smp X st i).1 ∧ (smp X st i).1 ≤ 1099511627776 := by
  have a : (i : Int) * st ≤ 400 * 1048576 := by
    calc (i : Int) * st ≤ 400 * st := Int.mul_le_mul_of_nonneg_right (by omega) (by omega)
      _ ≤ 400 * 1048576 := Int.mul_le_mul_of_nonneg_left h2 (by omega)
  have b : 0 ≤ (i : Int) * st := Int.mul_nonneg (by omega) (by omega)
  exact ⟨b, by show (i : Int) * st ≤ _; omega⟩

/-- a chunk of them -/
def part (L : List Sm) (j : Nat) : List Sm := (L.drop (100 * j)).take 100
def ck (L : List Sm) (j : Nat) : Ck := (text (ofS St.zero (part L j)).1, part L j)
def cks (L : List Sm) (m : Nat) : List Ck := (List.range m).map (ck L)
theorem cks_succ (L : List Sm) (m : Nat) : cks L (m + 1) = cks L m ++ [ck L m] := by unfold cks; rw [List.range_succ, List.map_append]; rfl
theorem cks_all (L : List Sm) : ∀ m, ckAll (cks L m) = L.take (100 * m)
  | 0 => by simp [cks, ckAll]
  | m + 1 => by
    rw [cks_succ, ckAll_snoc, cks_all L m]
    show _ ++ (L.drop (100 * m)).take 100 = _
    rw [show 100 * (m + 1) = 100 * m + 100 by omega, List.take_add]
theorem part_of {X : Nat → Nat} {st : Int} {n j : Nat} (h1 : 1 ≤ st) (h2 : st ≤ 1048576) (hn : n ≤ 400) : (ofS St.zero (part (sL X st n) j)).2 = 0 := by
  have hsub : (part (sL X st n) j).Sublist (sL X st n) := (List.take_sublist _ _).trans (List.drop_sublist _ _)
  refine ofS_rises _ _ ((sL_rise X h1 n).sublist hsub) (fun x hx => ?_) ?_ (fun h => absurd h (by decide))
  · obtain ⟨i, hi, rfl⟩ := sL_mem (hsub.mem hx)
    exact smp_rng h1 h2 hi hn
  · show 0 + _ ≤ _
    unfold part; rw [List.length_take]; omega
theorem part_small {X : Nat → Nat} {st : Int} {n j : Nat} (hX : ∀ i, X i < 18446744073709551616) : ∀ x ∈ part (sL X st n) j, x.2 < 18446744073709551616 := by
  intro x hx
  have hsub : (part (sL X st n) j).Sublist (sL X st n) := (List.take_sublist _ _).trans (List.drop_sublist _ _)
  obtain ⟨i, _, rfl⟩ := sL_mem (hsub.mem hx)
  exact hX i
theorem ck_len {X : Nat → Nat} {st : Int} {n j : Nat} (hX : ∀ i, X i < 18446744073709551616) : (ck (sL X st n) j).1.length ≤ 2300 := by
  have hok := ofS_ok (part (sL X st n) j) St.zero St.zero_ok (part_small hX)
  have h1 := hok.n
  have h2 := hok.len
  have u1 := u_len (ofS St.zero (part (sL X st n) j)).1.n (by omega)
  have u2 := u_len (ofS St.zero (part (sL X st n) j)).1.bits.length (by omega)
  show (text _).length ≤ _
  unfold text
  rw [List.length_append, List.length_append, pack_length]
  omega
theorem cks_ok {X : Nat → Nat} {st : Int} {n m : Nat} (h1 : 1 ≤ st) (h2 : st ≤ 1048576) (hn : n ≤ 400) (hX : ∀ i, X i < 18446744073709551616) (hm : ∀ j, j < m → 100 * j < n) : CkOk (cks (sL X st n) m) where
  one := fun p hp => by
    unfold cks at hp
    obtain ⟨j, hj, rfl⟩ := List.mem_map.1 hp
    have hjn := hm j (List.mem_range.1 hj)
    refine ⟨samplesR_of (Prod.ext rfl (part_of h1 h2 hn)) (part_small hX), ?_, Nat.le_trans (ck_len hX) (by decide)⟩
    intro he
    have : (part (sL X st n) j).length = 0 := by show (ck (sL X st n) j).2.length = 0; rw [he]; rfl
    unfold part at this
    rw [List.length_take, List.length_drop, sL_len] at this
    omega
  rise := by
    rw [cks_all]
    exact (sL_rise X h1 n).sublist (List.take_sublist _ _)

end Go.Proofs.YtkdligefhofndaaDoor
