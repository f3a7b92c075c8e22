/-
  Layer 14: rows of samples in memory under exchanges; the walks of swapRange and rotate.
-/
import Derived.Test.YtjklcojnbcemoaaGreatDoorZMrgS
import Derived.Test.YtjklcojnbcemoaaGreatDoorZSmp
import Derived.Test.YtjklcojnbcemoaaGreatDoorZLib9
import Derived.BigRegion
import Derived.Deep.DeepCutAuto
import Derived.BigQuiet
import Derived.Lib.BufferOwn

namespace Go.Proofs.YtjklcojnbcemoaaGreatDoor
open Go.RowKit Go.Bar Go.Bar.Xor Go.Bar.Mrg

theorem smc_set : ∀ (l : List Sm) (i : Nat) (x : Sm), i < l.length → ((smc l).set (i * 2) (.int .i64 x.1)).set (i * 2 + 1) (.int .u64 (x.2 : Nat)) = smc (l.set i x)
  | [], i, x, h => by simp at h
  | y :: l, 0, x, _ => by simp [smc]
  | y :: l, i + 1, x, h => by
    have ih := smc_set l i x (by simpa using h)
    have e1 : (i + 1) * 2 = i * 2 + 1 + 1 := by omega
    show ((((Value.int .i64 y.1 :: Value.int .u64 (y.2 : Nat) :: smc l)).set ((i + 1) * 2) (.int .i64 x.1)).set ((i + 1) * 2 + 1) (.int .u64 (x.2 : Nat))) = Value.int .i64 y.1 :: Value.int .u64 (y.2 : Nat) :: smc (l.set i x)
    rw [e1, List.set_cons_succ, List.set_cons_succ, List.set_cons_succ, List.set_cons_succ, ih]
theorem row_set {α : Type} (n i : Nat) (f : Nat → α) (x : α) : (row n f).set i x = row n (fun k => if k = i then x else f k) := by
  refine List.ext_getElem? fun k => ?_
  rw [List.getElem?_set, row_len]
  by_cases hk : k < n
  · rw [row_at _ hk, row_at _ hk]
    by_cases h : i = k
    · rw [if_pos h, if_pos (by omega), if_pos h.symm]
    · rw [if_neg h, if_neg (fun e => h e.symm)]
  · rw [List.getElem?_eq_none (by rw [row_len]; omega), List.getElem?_eq_none (by rw [row_len]; omega)]
    split
    · rw [if_neg (by omega)]
    · rfl
/-- a row of samples in a block that is turned since W -/
structure Rw (W : World) (b o n c : Nat) (f : Nat → Sm) (w : World) : Prop where
  buf : Buf w 42 2 (.slice (some ⟨b, o, none⟩) n c) n (smc (row n f))
  gr : W.grownBy w (some b)
section
variable {W w w' : World} {b o n c : Nat} {f : Nat → Sm}
theorem Rw.below (h : Rw W b o n c f w) (hb : Below w.heap.size w w') : Rw W b o n c f w' := ⟨h.buf.below hb, Go.Lib.grownBy_below h.gr hb⟩
theorem Rw.at_ (h : Rw W b o n c f w) {i : Nat} (hi : i < n) : w.cell? ⟨b, o + i * 2, none⟩ = some (.int .i64 (f i).1) ∧ w.cell? ⟨b, o + i * 2 + 1, none⟩ = some (.int .u64 ((f i).2 : Nat)) ∧ w.frozen? ⟨b, o + i * 2, none⟩ = false ∧ w.frozen? ⟨b, o + i * 2 + 1, none⟩ = false := by
  obtain ⟨g1, g2⟩ := flat2 (fun x : Sm => Value.int .i64 x.1) (fun x : Sm => Value.int .u64 (x.2 : Nat)) (row n f) i (f i) (row_at f hi)
  obtain ⟨a1, a2⟩ := h.buf.cellN (j := i * 2) (by omega)
  obtain ⟨a3, a4⟩ := h.buf.cellN (j := i * 2 + 1) (by omega)
  exact ⟨a1.trans g1, by rw [Nat.add_assoc]; exact a3.trans g2, a2, by rw [Nat.add_assoc]; exact a4⟩
theorem Rw.lt (h : Rw W b o n c f w) (hn : 0 < n) : b < w.heap.size := h.buf.lt hn b rfl
theorem Rw.put (h : Rw W b o n c f w) {i : Nat} (hi : i < n) (x : Sm) : Rw W b o n c (fun k => if k = i then x else f k) ((w.setCell ⟨b, o + i * 2, none⟩ (.int .i64 x.1)).setCell ⟨b, o + i * 2 + 1, none⟩ (.int .u64 (x.2 : Nat))) := by
  refine ⟨?_, Go.Lib.grownBy_setB (Go.Lib.grownBy_setB h.gr _ _) _ _⟩
  have h1 := (h.buf.storeN (j := i * 2) (by omega) (.int .i64 x.1)).storeN (j := i * 2 + 1) (by omega) (.int .u64 (x.2 : Nat))
  rw [smc_set _ _ _ (by rw [row_len]; exact hi), row_set] at h1
  rw [Nat.add_assoc]
  exact h1
theorem Rw.swap (h : Rw W b o n c f w) {i j : Nat} (hi : i < n) (hj : j < n) : Rw W b o n c (swf i j f) ((((w.setCell ⟨b, o + i * 2, none⟩ (.int .i64 (f j).1)).setCell ⟨b, o + i * 2 + 1, none⟩ (.int .u64 ((f j).2 : Nat))).setCell ⟨b, o + j * 2, none⟩ (.int .i64 (f i).1)).setCell ⟨b, o + j * 2 + 1, none⟩ (.int .u64 ((f i).2 : Nat))) := by
  have h1 := (h.put hi (f j)).put hj (f i)
  have e : (fun k => if k = j then f i else if k = i then f j else f k) = swf i j f := by
    funext k
    unfold swf
    by_cases h1 : k = i
    · rw [if_pos h1]
      by_cases h2 : k = j
      · rw [if_pos h2]; subst h1; subst h2; simp
      · rw [if_neg h2, if_pos h1]
    · rw [if_neg h1, if_neg h1]
  rw [e] at h1
  exact h1
end
def RetRw (W : World) (b o n c : Nat) (f : Nat → Sm) (e : Ending) (w' : World) : Prop := e = .returned (.tuple #[]) ∧ Rw W b o n c f w'

set_option maxHeartbeats 4000000 in
set_option maxRecDepth 10000 in
theorem swapRange_any (b o n c x y k : Nat) (f : Nat → Sm) (fv : Value) (W w : World) (h : Rw W b o n c f w) (hxy : x + k ≤ y) (hy : y + k ≤ n) (hn : n < 1000000000) :
    Calls Tryz.prog 105 #[.slice (some ⟨b, o, none⟩) n c, .int .i64 (x : Nat), .int .i64 (y : Nat), .int .i64 (k : Nat), fv] w (RetRw W b o n c (swr x y k f)) := by
  go_enter Tryz.func105, Tryz.ntmps105
  go_wp2_with fail
  go_loopw [10] (fun iv wr => ∃ i : Nat, iv = .int .i64 i ∧ i ≤ k ∧ Rw W b o n c (swr x y i f) wr) (fun iv _ => k - (intOf iv).toNat)
  case atStart => exact ⟨0, rfl, Nat.zero_le _, by rw [swr_zero]; exact h⟩
  case round =>
    obtain ⟨i, rfl, hi, hR⟩ := hrel
    by_cases hgo : i < k
    · have hs := swr_succ (a := x) (b := y) (n := i) (by omega) f
      obtain ⟨g, hg⟩ : ∃ g, g = swr x y i f := ⟨_, rfl⟩
      rw [← hg] at hR hs
      obtain ⟨p, hp⟩ : ∃ p, p = x + i := ⟨_, rfl⟩
      obtain ⟨q, hq⟩ : ∃ q, q = y + i := ⟨_, rfl⟩
      have e1 : IntKind.i64.wrap ((x : Int) + (i : Int)) = (p : Int) := by rw [IntKind.wrap_i64]; omega
      have e2 : IntKind.i64.wrap ((y : Int) + (i : Int)) = (q : Int) := by rw [IntKind.wrap_i64]; omega
      have hpn : p < n := by omega
      have hqn : q < n := by omega
      have hpi : (p : Int) < (n : Int) := by omega
      have hqi : (q : Int) < (n : Int) := by omega
      have hsw := hR.swap hpn hqn
      rw [← hp, ← hq] at hs
      rw [← hs] at hsw
      obtain ⟨a1, a2, a3, a4⟩ := hR.at_ hpn
      obtain ⟨b1, b2, b3, b4⟩ := hR.at_ hqn
      have hq1 := (hR.put hpn (g q)).at_ hqn
      rw [if_neg (show ¬ q = p by omega)] at hq1
      obtain ⟨d1, d2, d3, d4⟩ := hq1
      have HS := Lib.hid hsw
      have hlt := hR.lt (by omega)
      clear hsw hs hg hR hp hq
      go_upto_region 3 with fail
      go_region
      have hR2 := HS.out.below (Below.refl _ _).drew
      clear a1 a2 a3 a4 b1 b2 b3 b4 d1 d2 d3 d4 HS hlt
      go_wp2_with fail
      go_roundw
      case rel => exact ⟨i + 1, by go_num, by omega, hR2⟩
      case measure => simp [intOf]; omega
    · obtain rfl : i = k := by omega
      go_wp2_with fail
      go_end0
      exact ⟨rfl, hR⟩

set_option maxHeartbeats 4000000 in
set_option maxRecDepth 10000 in
theorem rotate_any (b o n c x m y : Nat) (f : Nat → Sm) (fv : Value) (W w : World) (h : Rw W b o n c f w) (hx : x < m) (hm : m < y) (hy : y ≤ n) (hn : n < 1000000000) :
    Calls Tryz.prog 89 #[.slice (some ⟨b, o, none⟩) n c, .int .i64 (x : Nat), .int .i64 (m : Nat), .int .i64 (y : Nat), fv] w (RetRw W b o n c (rot x m y f)) := by
  have hsw := fun (p q k : Nat) (g : Nat → Sm) (w' : World) (h1 : Rw W b o n c g w') (h2 : p + k ≤ q) (h3 : q + k ≤ n) => swapRange_any b o n c p q k g fv W w' h1 h2 h3 hn
  have HSW := Lib.hid hsw
  clear hsw
  obtain ⟨i0, hi0⟩ : ∃ i0, m = x + i0 := ⟨m - x, by omega⟩
  obtain ⟨j0, hj0⟩ : ∃ j0, y = m + j0 := ⟨y - m, by omega⟩
  have e1 : IntKind.i64.wrap ((m : Int) - (x : Int)) = (i0 : Int) := by rw [IntKind.wrap_i64]; omega
  have e2 : IntKind.i64.wrap ((y : Int) - (m : Int)) = (j0 : Int) := by rw [IntKind.wrap_i64]; omega
  have e3 : (m : Int) - (x : Int) = (i0 : Int) := by omega
  have e4 : (y : Int) - (m : Int) = (j0 : Int) := by omega
  obtain ⟨T, hT⟩ : ∃ T, T = rot x m y f := ⟨_, rfl⟩
  have hT0 : rot (m - i0) m (m + j0) f = T := by rw [hT, ← hj0, show m - i0 = x by omega]
  rw [← hT]
  have hmn : m + j0 ≤ n := by omega
  have him : i0 ≤ m := by omega
  have hi1 : 0 < i0 := by omega
  have hj1 : 0 < j0 := by omega
  have HT := Lib.hid hT0
  clear hT hT0 hi0 hj0 hx hm hy
  go_enter Tryz.func89, Tryz.ntmps89
  go_wp2_with fail
  clear e1 e2 e3 e4
  go_loopw [10, 11] (fun iv jv wr => ∃ (i j : Nat) (g : Nat → Sm), iv = .int .i64 i ∧ jv = .int .i64 j ∧ i ≤ m ∧ m + j ≤ n ∧ 0 < i ∧ 0 < j ∧ Hid (rot (m - i) m (m + j) g = T) ∧ Rw W b o n c g wr) (fun iv jv _ => (intOf iv).toNat + (intOf jv).toNat)
  case atStart => exact ⟨i0, j0, f, rfl, rfl, him, hmn, hi1, hj1, HT, h⟩
  case round =>
    obtain ⟨i, j, g, rfl, rfl, hi, hj, hi0, hj0, HG, hR⟩ := hrel
    clear h him hmn hi1 hj1 HT
    by_cases hne : i = j
    · subst hne
      obtain ⟨u, hu⟩ : ∃ u, u = m - i := ⟨_, rfl⟩
      have e1 : IntKind.i64.wrap ((m : Int) - (i : Int)) = (u : Int) := by rw [IntKind.wrap_i64]; omega
      have e3 : (m : Int) - (i : Int) = (u : Int) := by omega
      have hs := HSW.out u m i g wr hR (by omega) hj
      have he : swr u m i g = T := by rw [hu, rot_same hi]; exact HG.out
      rw [he] at hs
      have HS := Lib.hid hs
      clear hs he hu hR
      go_wp2_with fail
      refine HS.out.mono ?_
      rintro e w' ⟨rfl, hR2⟩
      go_wp2_with fail
      go_end0
      exact ⟨rfl, hR2⟩
    · by_cases hij : j < i
      · obtain ⟨u, hu⟩ : ∃ u, u = m - i := ⟨_, rfl⟩
        obtain ⟨i2, hi2⟩ : ∃ i2, i2 = i - j := ⟨_, rfl⟩
        have e1 : IntKind.i64.wrap ((m : Int) - (i : Int)) = (u : Int) := by rw [IntKind.wrap_i64]; omega
        have e3 : (m : Int) - (i : Int) = (u : Int) := by omega
        have e2 : IntKind.i64.wrap ((i : Int) - (j : Int)) = (i2 : Int) := by rw [IntKind.wrap_i64]; omega
        have e4 : (i : Int) - (j : Int) = (i2 : Int) := by omega
        have hji : (j : Int) < (i : Int) := by omega
        have hnz : ¬ (i : Int) = (j : Int) := by omega
        have hs := HSW.out u m j g wr hR (by omega) hj
        have he : rot (m - i2) m (m + j) (swr u m j g) = T := by rw [hu, hi2, show m - (i - j) = m - i + j by omega, rot_big hij hi]; exact HG.out
        have q1 : i2 ≤ m := by omega
        have q2 : 0 < i2 := by omega
        have q3 : i2 + j < i + j := by omega
        have HS := Lib.hid hs
        have HE := Lib.hid he
        clear hs he hu hi2 hR
        go_wp2_with fail
        refine HS.out.mono ?_
        rintro e w' ⟨rfl, hR2⟩
        go_wp2_with fail
        go_roundw
        case rel => exact ⟨i2, j, _, rfl, rfl, q1, hj, q2, hj0, HE, hR2⟩
        case measure => simp [intOf]; omega
      · obtain ⟨u, hu⟩ : ∃ u, u = m - i := ⟨_, rfl⟩
        obtain ⟨v, hv⟩ : ∃ v, v = m + j - i := ⟨_, rfl⟩
        obtain ⟨j2, hj2⟩ : ∃ j2, j2 = j - i := ⟨_, rfl⟩
        have e1 : IntKind.i64.wrap ((m : Int) - (i : Int)) = (u : Int) := by rw [IntKind.wrap_i64]; omega
        have e3 : (m : Int) - (i : Int) = (u : Int) := by omega
        have e2 : IntKind.i64.wrap ((j : Int) - (i : Int)) = (j2 : Int) := by rw [IntKind.wrap_i64]; omega
        have e4 : (j : Int) - (i : Int) = (j2 : Int) := by omega
        have e5 : IntKind.i64.wrap ((m : Int) + (j : Int)) = (m : Int) + (j : Int) := by rw [IntKind.wrap_i64]; omega
        have e6 : IntKind.i64.wrap ((m : Int) + (j : Int) - (i : Int)) = (v : Int) := by rw [IntKind.wrap_i64]; omega
        have e7 : (m : Int) + (j : Int) - (i : Int) = (v : Int) := by omega
        have hji : ¬ (j : Int) < (i : Int) := by omega
        have hnz : ¬ (i : Int) = (j : Int) := by omega
        have hs := HSW.out u v i g wr hR (by omega) (by omega)
        have he : rot (m - i) m (m + j2) (swr u v i g) = T := by rw [hu, hv, hj2, rot_small (by omega) hi]; exact HG.out
        have q1 : m + j2 ≤ n := by omega
        have q2 : 0 < j2 := by omega
        have q3 : i + j2 < i + j := by omega
        have HS := Lib.hid hs
        have HE := Lib.hid he
        clear hs he hu hv hj2 hR
        go_wp2_with fail
        refine HS.out.mono ?_
        rintro e w' ⟨rfl, hR2⟩
        go_wp2_with fail
        go_roundw
        case rel => exact ⟨i, j2, _, rfl, rfl, hi, q1, hi0, q2, HE, hR2⟩
        case measure => simp [intOf]; omega
end Go.Proofs.YtjklcojnbcemoaaGreatDoor
