/-
  Layer 14: the walks of the insertion sort and of symMerge over samples.
-/
import Derived.Test.YtjklcojnbcemoaaGreatDoorZMrgT
import Derived.Test.YtjklcojnbcemoaaGreatDoorZMrgU
import Derived.Test.YtjklcojnbcemoaaGreatDoorZLib9
import Derived.Test.YtjklcojnbcemoaaGreatDoorZLib5

namespace Go.Proofs.YtjklcojnbcemoaaGreatDoor
open Go.RowKit Go.Bar Go.Bar.Xor Go.Bar.Mrg

/-- numbers compared -/
def cmpZ (a b : Int) : Int := if a < b then -1 else if b < a then 1 else 0
theorem cmpZ_lt (a b : Int) : (cmpZ a b < 0) ↔ a < b := by
  unfold cmpZ
  split
  · omega
  · split <;> omega

set_option maxHeartbeats 1000000 in
theorem cmpZ_any (a b : Int) (w : World) : Calls Tryz.prog 50 #[.int .i64 a, .int .i64 b] w fun e w' => e = .returned (.int .i64 (cmpZ a b)) ∧ w = w' := by
  unfold cmpZ
  by_cases h : a < b
  · rw [if_pos h]
    go_enter Tryz.func50, Tryz.ntmps50
    go_wp2
    go_ret
    exact ⟨rfl, rfl⟩
  · rw [if_neg h]
    by_cases h2 : b < a
    · rw [if_pos h2]
      go_enter Tryz.func50, Tryz.ntmps50
      go_wp2
      go_ret
      exact ⟨rfl, rfl⟩
    · rw [if_neg h2]
      go_enter Tryz.func50, Tryz.ntmps50
      go_wp2
      go_ret
      exact ⟨rfl, rfl⟩

set_option maxHeartbeats 1000000 in
theorem samCmp_any (x y : Sm) (w : World) : Calls Tryz.prog 49 #[.agg #[.int .i64 x.1, .int .u64 (x.2 : Nat)], .agg #[.int .i64 y.1, .int .u64 (y.2 : Nat)]] w (RetBelow w (.int .i64 (cmpZ x.1 y.1))) := by
  have hc := cmpZ_any x.1 y.1
  have HC := Lib.hid hc
  clear hc
  go_enter Tryz.func49, Tryz.ntmps49
  go_wp2_with fail
  refine (HC.out _).mono ?_
  rintro e w' ⟨rfl, rfl⟩
  go_wp2_with fail
  go_ret
  exact ⟨rfl, ((Below.refl _ _).alloc (Nat.le_refl _) _).alloc (by simp) _⟩

/-- the compare that the sort is given -/
abbrev fvS : Value := .func (.func 49) #[] #[]

theorem insStep {a i : Nat} {F : Nat → Tg} (h1 : Sor lt2 a i F) (ht : Tag a i (i + 1) F) (hai : a ≤ i) {j : Nat} (hj : a ≤ j) (hji : j ≤ i) (hst : j = a ∨ ¬ (F i).1.1 < (F (j - 1)).1.1) (hup : ∀ k, j ≤ k → k < i → (F i).1.1 < (F k).1.1) :
    PermOn a (i + 1) F (rot j i (i + 1) F) ∧ Sor lt2 a (i + 1) (rot j i (i + 1) F) := by
  refine right_one hj hji h1 (fun p q _ _ _ => by omega) ht (fun k k1 k2 => ?_) hup
  rcases hst with rfl | hst
  · omega
  · have := h1.le (i := k) (j := j - 1) k1 (by omega) (by omega)
    omega

set_option maxHeartbeats 8000000 in
set_option maxRecDepth 10000 in
theorem insSort_any (b o n c x y : Nat) (F : Nat → Tg) (W w : World) (h : Rw W b o n c (fun k => (F k).1) w) (hxy : x < y) (hy : y ≤ n) (hn : n < 1000000000) (ht : ∀ i j, x ≤ i → i < j → j < y → (F i).2 < (F j).2) :
    Calls Tryz.prog 77 #[.slice (some ⟨b, o, none⟩) n c, .int .i64 (x : Nat), .int .i64 (y : Nat), fvS] w (fun e w' => e = .returned (.tuple #[]) ∧ ∃ G, PermOn x y F G ∧ Sor lt2 x y G ∧ Rw W b o n c (fun k => (G k).1) w') := by
  have hx1 : IntKind.i64.wrap ((x : Int) + 1) = (x : Int) + 1 := by rw [IntKind.wrap_i64]; omega
  have HT := Lib.hid ht
  clear ht
  go_enter Tryz.func77, Tryz.ntmps77
  go_wp2_with fail
  go_loopw [8] (fun iv wr => ∃ (i : Nat) (G : Nat → Tg), iv = .int .i64 i ∧ x < i ∧ i ≤ y ∧ Hid (PermOn x i F G ∧ Sor lt2 x i G) ∧ Rw W b o n c (fun k => (G k).1) wr) (fun iv _ => y - (intOf iv).toNat)
  case atStart => exact ⟨x + 1, F, by go_num, by omega, hxy, Lib.hid ⟨PermOn.refl _ _ _, fun _ _ _ _ _ => by omega⟩, h⟩
  case round =>
    obtain ⟨i, G, rfl, hxi, hiy, HG, hR⟩ := hrel
    clear h hx1
    by_cases hgo : i < y
    · have htag : Tag x i (i + 1) G := fun p q hp hpi hq hqi => by
        obtain rfl : q = i := by omega
        rw [HG.out.1.out (k := q) (by omega)]
        exact HG.out.1.all (P := fun z => z.2 < (F q).2) (fun k k1 k2 => HT.out k q k1 k2 hgo) p hp hpi
      have HTAG := Lib.hid htag
      obtain ⟨f0, hf0⟩ : ∃ f0 : Nat → Sm, f0 = fun k => (G k).1 := ⟨_, rfl⟩
      rw [← hf0] at hR
      have HF0 := Lib.hid hf0
      clear htag hf0
      have hci : (0 : Int) ≤ (i : Int) := by omega
      go_wp2_with fail
      go_loopw [9] (fun jv wi => ∃ (j : Nat), jv = .int .i64 j ∧ x ≤ j ∧ j ≤ i ∧ Hid (∀ k, j ≤ k → k < i → (f0 i).1 < (f0 k).1) ∧ Rw W b o n c (rot j i (i + 1) f0) wi) (fun jv _ => (intOf jv).toNat)
      case atStart => exact ⟨i, rfl, by omega, Nat.le_refl _, Lib.hid (fun _ _ _ => by omega), by rw [rot_none (.inl rfl) (Nat.le_refl _) (by omega)]; exact hR⟩
      case round =>
        obtain ⟨j, rfl, hxj, hji, HU, hI⟩ := hrel
        clear hR
        have HEND : Hid ((j = x ∨ ¬ (f0 i).1 < (f0 (j - 1)).1) → ∃ G', PermOn x (i + 1) F G' ∧ Sor lt2 x (i + 1) G' ∧ (fun k => (G' k).1) = rot j i (i + 1) f0) := Lib.hid (fun hst => by
          have hu := HU.out
          rw [HF0.out] at hst hu
          obtain ⟨p1, p2⟩ := insStep HG.out.2 HTAG.out (by omega) hxj hji hst hu
          exact ⟨_, (HG.out.1.mono (Nat.le_refl _) (by omega)).trans p1, p2, by rw [rot_fst, HF0.out]⟩)
        by_cases hjx : j = x
        · obtain ⟨G', p1, p2, p3⟩ := HEND.out (.inl hjx)
          rw [← p3] at hI
          have HP := Lib.hid (And.intro p1 p2)
          have hnj : ¬ (x : Int) < (j : Int) := by omega
          clear p1 p2 p3 HEND HU hjx
          go_upto_region 4 with fail
          refine wp_region_facts [] (by kernel_rfl) 53 (by kernel_rfl) rfl (fun _ _ h => by cases h) (fun _ _ h => by cases h) ?_
          repeat (first
            | (refine Chain.step (v := ?_) (a' := ?_) rfl rfl rfl ?_ ?_ ?_
               rotate_left 2
               focus (intro w; go_simp; try with_reducible rfl)
               focus (simp only [Act.put, List.setIfInBounds_toArray, List.set_cons_succ, List.set_cons_zero]; try rfl))
            | (refine Chain.skip (a' := ?_) rfl rfl rfl ?_ ?_
               rotate_left 1
               focus (simp only [Act.put, List.setIfInBounds_toArray, List.set_cons_succ, List.set_cons_zero]; try rfl)))
          refine Chain.end_ (fun wz hwz _ => ?_)
          have hI2 := hI.below hwz
          clear hI hwz
          go_wp2_with fail
          go_roundw
          case rel => exact ⟨i + 1, G', by go_num, by omega, by omega, HP, hI2⟩
          case measure => simp [intOf]; omega
        · obtain ⟨jp, rfl⟩ : ∃ jp, j = jp + 1 := ⟨j - 1, by omega⟩
          have hdn := rot_down (j := jp + 1) (by omega) hji f0
          rw [Nat.add_sub_cancel] at hdn HEND
          have hra := rot_at hji f0
          have hrl : rot (jp + 1) i (i + 1) f0 jp = f0 jp := rot_lo (by omega) f0
          obtain ⟨g, hg⟩ : ∃ g, g = rot (jp + 1) i (i + 1) f0 := ⟨_, rfl⟩
          rw [← hg] at hdn hra hrl hI HEND
          have hjn : jp + 1 < n := by omega
          have hjn1 : jp < n := by omega
          obtain ⟨X, hX⟩ : ∃ X, X = g (jp + 1) := ⟨_, rfl⟩
          obtain ⟨Y, hY⟩ : ∃ Y, Y = g jp := ⟨_, rfl⟩
          have hat := fun (w' : World) (hb : Below wr.heap.size wr w') => (hI.below hb).at_ hjn
          have hat1 := fun (w' : World) (hb : Below wr.heap.size wr w') => (hI.below hb).at_ hjn1
          rw [← hX] at hat
          rw [← hY] at hat1
          rw [← hX] at hra
          rw [← hY] at hrl
          have HA := Lib.hid hat
          have HA1 := Lib.hid hat1
          have HI := Lib.hid hI
          have HDN := Lib.hid hdn
          have hc := samCmp_any X Y
          have hz := cmpZ_lt X.1 Y.1
          rw [hra, hrl] at hz
          obtain ⟨Z, hZ⟩ : ∃ Z, Z = cmpZ X.1 Y.1 := ⟨_, rfl⟩
          rw [← hZ] at hc
          rw [← hra, ← hrl] at hz
          rw [← hZ] at hz
          have HC := Lib.hid hc
          have HX := Lib.hid hX
          have HY := Lib.hid hY
          have hjz : (x : Int) < (jp : Int) + 1 := by omega
          have hj0 : (0 : Int) ≤ (jp : Int) + 1 := by omega
          have hjt : ((jp : Int) + 1).toNat = jp + 1 := by omega
          have hjn3 : (jp : Int) + 1 < (n : Int) := by omega
          have hjn4 : (jp : Int) < (n : Int) := by omega
          have hjw : IntKind.i64.wrap (jp : Int) = (jp : Int) := by rw [IntKind.wrap_i64]; omega
          have hjw1 : IntKind.i64.wrap ((jp : Int) + 1 - 1) = (jp : Int) := by rw [IntKind.wrap_i64]; omega
          have HRA := Lib.hid hra
          have HRL := Lib.hid hrl
          have HZ := Lib.hid hz
          clear hat hat1 hI hdn hc hz hZ hra hrl hg hX hY
          go_upto_region 4 with fail
          by_cases hlz : Z < 0
          · have hlz0 := hlz
            clear hlz0
            refine wp_region_facts [(8, (isV (.agg #[.int .i64 X.1, .int .u64 (X.2 : Nat)]), noFact)), (13, (isV (.agg #[.int .i64 Y.1, .int .u64 (Y.2 : Nat)]), noFact)), (14, (isV (.int .i64 Z), noFact))] (by kernel_rfl) 53 (by kernel_rfl) rfl ?_ ?_ ?_
            · apply lookup_ne
              simp only [List.forall_mem_cons, List.not_mem_nil, false_imp_iff, implies_true, and_true]
              exact ⟨⟨_, rfl⟩, ⟨_, rfl⟩, ⟨_, rfl⟩⟩
            · apply lookup_st
              simp only [List.forall_mem_cons, List.not_mem_nil, false_imp_iff, implies_true, and_true]
              refine ⟨?_, ?_, ?_⟩
              · exact fun _ _ _ _ _ => trivial
              · exact fun _ _ _ _ _ => trivial
              · exact fun _ _ _ _ _ => trivial
            repeat (first
              | (refine Chain.step (v := ?_) (a' := ?_) rfl rfl rfl ?_ ?_ ?_
                 rotate_left 2
                 focus (intro w; go_simp; try with_reducible rfl)
                 focus (simp only [Act.put, List.setIfInBounds_toArray, List.set_cons_succ, List.set_cons_zero]; try rfl))
              | (refine Chain.skip (a' := ?_) rfl rfl rfl ?_ ?_
                 rotate_left 1
                 focus (simp only [Act.put, List.setIfInBounds_toArray, List.set_cons_succ, List.set_cons_zero]; try rfl)))
            refine Chain.call' (a' := ?_) _ rfl rfl rfl rfl (fun wx hw hF => ?_) ?_ ?_
            rotate_left 1
            focus
              obtain ⟨a1, a2, _, _⟩ := HA.out wx hw
              go_simp
              first | exact ⟨rfl, Below.refl _ _⟩ | exact Below.refl _ _
            focus (simp only [Act.put, List.setIfInBounds_toArray, List.set_cons_succ, List.set_cons_zero]; try rfl)
            repeat (first
              | (refine Chain.step (v := ?_) (a' := ?_) rfl rfl rfl ?_ ?_ ?_
                 rotate_left 2
                 focus (intro w; go_simp; try with_reducible rfl)
                 focus (simp only [Act.put, List.setIfInBounds_toArray, List.set_cons_succ, List.set_cons_zero]; try rfl))
              | (refine Chain.skip (a' := ?_) rfl rfl rfl ?_ ?_
                 rotate_left 1
                 focus (simp only [Act.put, List.setIfInBounds_toArray, List.set_cons_succ, List.set_cons_zero]; try rfl)))
            refine Chain.call' (a' := ?_) _ rfl rfl rfl rfl (fun wx hw hF => ?_) ?_ ?_
            rotate_left 1
            focus
              obtain ⟨a1, a2, _, _⟩ := HA1.out wx hw
              go_simp
              first | exact ⟨rfl, Below.refl _ _⟩ | exact Below.refl _ _
            focus (simp only [Act.put, List.setIfInBounds_toArray, List.set_cons_succ, List.set_cons_zero]; try rfl)
            repeat (first
              | (refine Chain.step (v := ?_) (a' := ?_) rfl rfl rfl ?_ ?_ ?_
                 rotate_left 2
                 focus (intro w; go_simp; try with_reducible rfl)
                 focus (simp only [Act.put, List.setIfInBounds_toArray, List.set_cons_succ, List.set_cons_zero]; try rfl))
              | (refine Chain.skip (a' := ?_) rfl rfl rfl ?_ ?_
                 rotate_left 1
                 focus (simp only [Act.put, List.setIfInBounds_toArray, List.set_cons_succ, List.set_cons_zero]; try rfl)))
            refine Chain.call' (a' := ?_) _ rfl rfl rfl rfl (fun wx hw hF => ?_) ?_ ?_
            rotate_left 1
            focus
              go_simp; (with_reducible refine (HC.out _).mono ?_); exact (fun e w' ⟨h1, h2⟩ => by subst h1; exact ⟨rfl, h2⟩)
            focus (simp only [Act.put, List.setIfInBounds_toArray, List.set_cons_succ, List.set_cons_zero]; try rfl)
            repeat (first
              | (refine Chain.step (v := ?_) (a' := ?_) rfl rfl rfl ?_ ?_ ?_
                 rotate_left 2
                 focus (intro w; go_simp; try with_reducible rfl)
                 focus (simp only [Act.put, List.setIfInBounds_toArray, List.set_cons_succ, List.set_cons_zero]; try rfl))
              | (refine Chain.skip (a' := ?_) rfl rfl rfl ?_ ?_
                 rotate_left 1
                 focus (simp only [Act.put, List.setIfInBounds_toArray, List.set_cons_succ, List.set_cons_zero]; try rfl)))
            refine Chain.end_ (fun wz hwz _ => ?_)
            have hI2 := HI.out.below hwz
            have hup : Hid (∀ k, jp ≤ k → k < i → (f0 i).1 < (f0 k).1) := Lib.hid (fun k k1 k2 => by
              by_cases hk : k = jp
              · rw [hk, ← HRA.out, ← HRL.out]; exact HZ.out.1 hlz
              · exact HU.out k (by omega) k2)
            clear HEND HU
            have hsw := hI2.swap hjn hjn1
            rw [HDN.out] at hsw
            obtain ⟨a1, a2, a3, a4⟩ := HA.out wz hwz
            obtain ⟨b1, b2, b3, b4⟩ := HA1.out wz hwz
            have hgX := HX.out
            have hgY := HY.out
            have hq1 := (hI2.put hjn (g jp)).at_ hjn1
            rw [if_neg (show ¬ jp = jp + 1 by omega), ← hgY] at hq1
            rw [← hgX, ← hgY] at hsw
            obtain ⟨d1, d2, d3, d4⟩ := hq1
            have HS := Lib.hid hsw
            have hlt := hI2.lt (by omega)
            clear hsw hgX hgY hI2 HA HA1 HI HX HY hwz HC HDN
            go_upto_region 6 with fail
            go_region
            have hR2 := HS.out.below (Below.refl _ _).drew
            clear a1 a2 a3 a4 b1 b2 b3 b4 d1 d2 d3 d4 HS hlt
            go_wp2_with fail
            go_roundw
            case rel => exact ⟨jp, by go_num, by omega, by omega, hup, hR2⟩
            case measure => simp [intOf]
          · obtain ⟨G', p1, p2, p3⟩ := HEND.out (.inr (fun hh => hlz (HZ.out.2 (by rw [HRA.out, HRL.out]; exact hh))))
            have HP := Lib.hid (And.intro p1 p2)
            have HP3 := Lib.hid p3
            clear p1 p2 p3 HEND HU
            refine wp_region_facts [(8, (isV (.agg #[.int .i64 X.1, .int .u64 (X.2 : Nat)]), noFact)), (13, (isV (.agg #[.int .i64 Y.1, .int .u64 (Y.2 : Nat)]), noFact)), (14, (isV (.int .i64 Z), noFact))] (by kernel_rfl) 53 (by kernel_rfl) rfl ?_ ?_ ?_
            · apply lookup_ne
              simp only [List.forall_mem_cons, List.not_mem_nil, false_imp_iff, implies_true, and_true]
              exact ⟨⟨_, rfl⟩, ⟨_, rfl⟩, ⟨_, rfl⟩⟩
            · apply lookup_st
              simp only [List.forall_mem_cons, List.not_mem_nil, false_imp_iff, implies_true, and_true]
              refine ⟨?_, ?_, ?_⟩
              · exact fun _ _ _ _ _ => trivial
              · exact fun _ _ _ _ _ => trivial
              · exact fun _ _ _ _ _ => trivial
            repeat (first
              | (refine Chain.step (v := ?_) (a' := ?_) rfl rfl rfl ?_ ?_ ?_
                 rotate_left 2
                 focus (intro w; go_simp; try with_reducible rfl)
                 focus (simp only [Act.put, List.setIfInBounds_toArray, List.set_cons_succ, List.set_cons_zero]; try rfl))
              | (refine Chain.skip (a' := ?_) rfl rfl rfl ?_ ?_
                 rotate_left 1
                 focus (simp only [Act.put, List.setIfInBounds_toArray, List.set_cons_succ, List.set_cons_zero]; try rfl)))
            refine Chain.call' (a' := ?_) _ rfl rfl rfl rfl (fun wx hw hF => ?_) ?_ ?_
            rotate_left 1
            focus
              obtain ⟨a1, a2, _, _⟩ := HA.out wx hw
              go_simp
              first | exact ⟨rfl, Below.refl _ _⟩ | exact Below.refl _ _
            focus (simp only [Act.put, List.setIfInBounds_toArray, List.set_cons_succ, List.set_cons_zero]; try rfl)
            repeat (first
              | (refine Chain.step (v := ?_) (a' := ?_) rfl rfl rfl ?_ ?_ ?_
                 rotate_left 2
                 focus (intro w; go_simp; try with_reducible rfl)
                 focus (simp only [Act.put, List.setIfInBounds_toArray, List.set_cons_succ, List.set_cons_zero]; try rfl))
              | (refine Chain.skip (a' := ?_) rfl rfl rfl ?_ ?_
                 rotate_left 1
                 focus (simp only [Act.put, List.setIfInBounds_toArray, List.set_cons_succ, List.set_cons_zero]; try rfl)))
            refine Chain.call' (a' := ?_) _ rfl rfl rfl rfl (fun wx hw hF => ?_) ?_ ?_
            rotate_left 1
            focus
              obtain ⟨a1, a2, _, _⟩ := HA1.out wx hw
              go_simp
              first | exact ⟨rfl, Below.refl _ _⟩ | exact Below.refl _ _
            focus (simp only [Act.put, List.setIfInBounds_toArray, List.set_cons_succ, List.set_cons_zero]; try rfl)
            repeat (first
              | (refine Chain.step (v := ?_) (a' := ?_) rfl rfl rfl ?_ ?_ ?_
                 rotate_left 2
                 focus (intro w; go_simp; try with_reducible rfl)
                 focus (simp only [Act.put, List.setIfInBounds_toArray, List.set_cons_succ, List.set_cons_zero]; try rfl))
              | (refine Chain.skip (a' := ?_) rfl rfl rfl ?_ ?_
                 rotate_left 1
                 focus (simp only [Act.put, List.setIfInBounds_toArray, List.set_cons_succ, List.set_cons_zero]; try rfl)))
            refine Chain.call' (a' := ?_) _ rfl rfl rfl rfl (fun wx hw hF => ?_) ?_ ?_
            rotate_left 1
            focus
              go_simp; (with_reducible refine (HC.out _).mono ?_); exact (fun e w' ⟨h1, h2⟩ => by subst h1; exact ⟨rfl, h2⟩)
            focus (simp only [Act.put, List.setIfInBounds_toArray, List.set_cons_succ, List.set_cons_zero]; try rfl)
            repeat (first
              | (refine Chain.step (v := ?_) (a' := ?_) rfl rfl rfl ?_ ?_ ?_
                 rotate_left 2
                 focus (intro w; go_simp; try with_reducible rfl)
                 focus (simp only [Act.put, List.setIfInBounds_toArray, List.set_cons_succ, List.set_cons_zero]; try rfl))
              | (refine Chain.skip (a' := ?_) rfl rfl rfl ?_ ?_
                 rotate_left 1
                 focus (simp only [Act.put, List.setIfInBounds_toArray, List.set_cons_succ, List.set_cons_zero]; try rfl)))
            refine Chain.end_ (fun wz hwz _ => ?_)
            have hI2 := HI.out.below hwz
            rw [← HP3.out] at hI2
            clear HI HA HA1 hwz HC HDN
            go_wp2_with fail
            go_roundw
            case rel => exact ⟨i + 1, G', by go_num, by omega, by omega, HP, hI2⟩
            case measure => simp [intOf]; omega
    · obtain rfl : i = y := by omega
      go_wp2_with fail
      go_end0
      exact ⟨rfl, G, HG.out.1, HG.out.2, hR⟩
end Go.Proofs.YtjklcojnbcemoaaGreatDoor

/-
  Layer 14: the walk of symMerge over samples.
-/
namespace Go.Proofs.YtjklcojnbcemoaaGreatDoor
open Go.RowKit Go.Bar Go.Bar.Xor Go.Bar.Mrg

/-- what a merge leaves -/
def RetMg (W : World) (b o n c x y : Nat) (F : Nat → Tg) (e : Ending) (w' : World) : Prop := e = .returned (.tuple #[]) ∧ ∃ G, PermOn x y F G ∧ Sor lt2 x y G ∧ Rw W b o n c (fun k => (G k).1) w'

set_option maxHeartbeats 8000000 in
set_option maxRecDepth 10000 in
theorem symLeft_any (b o n c x y : Nat) (F : Nat → Tg) (W w : World) (h : Rw W b o n c (fun k => (F k).1) w) (hm : x + 1 < y) (hy : y ≤ n) (hn : n < 1000000000) (h1 : Sor lt2 x (x + 1) F) (h2 : Sor lt2 (x + 1) y F) (ht : Tag x (x + 1) y F) :
    Calls Tryz.prog 78 #[.slice (some ⟨b, o, none⟩) n c, .int .i64 (x : Nat), .int .i64 ((x + 1 : Nat) : Int), .int .i64 (y : Nat), fvS] w (RetMg W b o n c x y F) := by
  have H1 := Lib.hid h1
  have H2 := Lib.hid h2
  have HT := Lib.hid ht
  clear h1 h2 ht
  obtain ⟨f0, hf0⟩ : ∃ f0 : Nat → Sm, f0 = fun k => (F k).1 := ⟨_, rfl⟩
  rw [← hf0] at h
  have HF0 := Lib.hid hf0
  clear hf0
  have e1 : IntKind.i64.wrap ((x : Int) + 1 - (x : Int)) = 1 := by rw [IntKind.wrap_i64]; omega
  have e2 : (x : Int) + 1 - (x : Int) = 1 := by omega
  go_enter Tryz.func78, Tryz.ntmps78
  go_wp2_with fail
  clear e1 e2
  go_loopw [10, 11] (fun iv jv wr => ∃ (i j : Nat), iv = .int .i64 i ∧ jv = .int .i64 j ∧ x + 1 ≤ i ∧ i ≤ j ∧ j ≤ y ∧ Hid (∀ k, x + 1 ≤ k → k < i → (f0 k).1 < (f0 x).1) ∧ Hid (∀ k, j ≤ k → k < y → ¬ (f0 k).1 < (f0 x).1) ∧ Rw W b o n c f0 wr) (fun iv jv _ => (intOf jv).toNat - (intOf iv).toNat)
  case atStart => exact ⟨x + 1, y, by go_num, rfl, Nat.le_refl _, by omega, Nat.le_refl _, Lib.hid (fun _ _ _ => by omega), Lib.hid (fun _ _ _ => by omega), h⟩
  case round =>
    obtain ⟨i, j, rfl, rfl, hxi, hij, hjy, HA, HB, hR⟩ := hrel
    clear h
    by_cases hgo : i < j
    · obtain ⟨q, hq⟩ : ∃ q, q = (i + j) / 2 := ⟨_, rfl⟩
      have hq1 : i ≤ q := by omega
      have hq2 : q < j := by omega
      have u1 : IntKind.i64.wrap ((i : Int) + (j : Int)) = (i : Int) + (j : Int) := by rw [IntKind.wrap_i64]; omega
      have hgz : (i : Int) < (j : Int) := by omega
      have hqz : ((i : Int) + (j : Int)) / 2 = (q : Int) := by omega
      have hqn : q < n := by omega
      have hxn : x < n := by omega
      have hqn2 : (q : Int) < (n : Int) := by omega
      have hxn2 : (x : Int) < (n : Int) := by omega
      obtain ⟨X, hX⟩ : ∃ X, X = f0 q := ⟨_, rfl⟩
      obtain ⟨Y, hY⟩ : ∃ Y, Y = f0 x := ⟨_, rfl⟩
      have hat := fun (w' : World) (hb : Below wr.heap.size wr w') => (hR.below hb).at_ hqn
      have hat1 := fun (w' : World) (hb : Below wr.heap.size wr w') => (hR.below hb).at_ hxn
      rw [← hX] at hat
      rw [← hY] at hat1
      have HAT := Lib.hid hat
      have HAT1 := Lib.hid hat1
      have HR := Lib.hid hR
      have hc := samCmp_any X Y
      have hz := cmpZ_lt X.1 Y.1
      obtain ⟨Z, hZ⟩ : ∃ Z, Z = cmpZ X.1 Y.1 := ⟨_, rfl⟩
      rw [← hZ] at hc hz
      have hA2 : Z < 0 → ∀ k, x + 1 ≤ k → k < q + 1 → (f0 k).1 < (f0 x).1 := fun hlz k k1 k2 => by
        have hlt := hz.1 hlz
        have l := H2.out.le (i := k) (j := q) k1 (by omega) (by omega)
        rw [hX, hY] at hlt
        rw [HF0.out] at hlt ⊢
        exact Int.lt_of_le_of_lt l hlt
      have hB2 : ¬ Z < 0 → ∀ k, q ≤ k → k < y → ¬ (f0 k).1 < (f0 x).1 := fun hlz k k1 k2 => by
        have hlt : ¬ X.1 < Y.1 := fun hh => hlz (hz.2 hh)
        have l := H2.out.le (i := q) (j := k) (by omega) k1 k2
        rw [hX, hY] at hlt
        rw [HF0.out] at hlt ⊢
        exact fun hh => hlt (Int.lt_of_le_of_lt l hh)
      have HA2 := Lib.hid hA2
      have HB2 := Lib.hid hB2
      have HC := Lib.hid hc
      clear hat hat1 hR hc hz hZ hX hY hA2 hB2 hq
      go_upto_region 5 with fail
      by_cases hlz : Z < 0
      · have hlz0 := hlz
        clear hlz0
        refine wp_region_facts [(4, (isV (.agg #[.int .i64 X.1, .int .u64 (X.2 : Nat)]), noFact)), (8, (isV (.agg #[.int .i64 Y.1, .int .u64 (Y.2 : Nat)]), noFact)), (9, (isV (.int .i64 Z), noFact))] (by kernel_rfl) 220 (by kernel_rfl) rfl ?_ ?_ ?_
        · apply lookup_ne
          simp only [List.forall_mem_cons, List.not_mem_nil, false_imp_iff, implies_true, and_true]
          exact ⟨⟨_, rfl⟩, ⟨_, rfl⟩, ⟨_, rfl⟩⟩
        · apply lookup_st
          simp only [List.forall_mem_cons, List.not_mem_nil, false_imp_iff, implies_true, and_true]
          refine ⟨?_, ?_, ?_⟩
          · exact fun _ _ _ _ _ => trivial
          · exact fun _ _ _ _ _ => trivial
          · exact fun _ _ _ _ _ => trivial
        repeat (first
          | (refine Chain.step (v := ?_) (a' := ?_) rfl rfl rfl ?_ ?_ ?_
             rotate_left 2
             focus (intro w; go_simp; try with_reducible rfl)
             focus (simp only [Act.put, List.setIfInBounds_toArray, List.set_cons_succ, List.set_cons_zero]; try rfl))
          | (refine Chain.skip (a' := ?_) rfl rfl rfl ?_ ?_
             rotate_left 1
             focus (simp only [Act.put, List.setIfInBounds_toArray, List.set_cons_succ, List.set_cons_zero]; try rfl)))
        refine Chain.call' (a' := ?_) _ rfl rfl rfl rfl (fun wx hw hF => ?_) ?_ ?_
        rotate_left 1
        focus
          obtain ⟨a1, a2, _, _⟩ := HAT.out wx hw
          go_simp
          first | exact ⟨rfl, Below.refl _ _⟩ | exact Below.refl _ _
        focus (simp only [Act.put, List.setIfInBounds_toArray, List.set_cons_succ, List.set_cons_zero]; try rfl)
        repeat (first
          | (refine Chain.step (v := ?_) (a' := ?_) rfl rfl rfl ?_ ?_ ?_
             rotate_left 2
             focus (intro w; go_simp; try with_reducible rfl)
             focus (simp only [Act.put, List.setIfInBounds_toArray, List.set_cons_succ, List.set_cons_zero]; try rfl))
          | (refine Chain.skip (a' := ?_) rfl rfl rfl ?_ ?_
             rotate_left 1
             focus (simp only [Act.put, List.setIfInBounds_toArray, List.set_cons_succ, List.set_cons_zero]; try rfl)))
        refine Chain.call' (a' := ?_) _ rfl rfl rfl rfl (fun wx hw hF => ?_) ?_ ?_
        rotate_left 1
        focus
          obtain ⟨a1, a2, _, _⟩ := HAT1.out wx hw
          go_simp
          first | exact ⟨rfl, Below.refl _ _⟩ | exact Below.refl _ _
        focus (simp only [Act.put, List.setIfInBounds_toArray, List.set_cons_succ, List.set_cons_zero]; try rfl)
        repeat (first
          | (refine Chain.step (v := ?_) (a' := ?_) rfl rfl rfl ?_ ?_ ?_
             rotate_left 2
             focus (intro w; go_simp; try with_reducible rfl)
             focus (simp only [Act.put, List.setIfInBounds_toArray, List.set_cons_succ, List.set_cons_zero]; try rfl))
          | (refine Chain.skip (a' := ?_) rfl rfl rfl ?_ ?_
             rotate_left 1
             focus (simp only [Act.put, List.setIfInBounds_toArray, List.set_cons_succ, List.set_cons_zero]; try rfl)))
        refine Chain.call' (a' := ?_) _ rfl rfl rfl rfl (fun wx hw hF => ?_) ?_ ?_
        rotate_left 1
        focus
          go_simp; (with_reducible refine (HC.out _).mono ?_); exact (fun e w' ⟨h1, h2⟩ => by subst h1; exact ⟨rfl, h2⟩)
        focus (simp only [Act.put, List.setIfInBounds_toArray, List.set_cons_succ, List.set_cons_zero]; try rfl)
        repeat (first
          | (refine Chain.step (v := ?_) (a' := ?_) rfl rfl rfl ?_ ?_ ?_
             rotate_left 2
             focus (intro w; go_simp; try with_reducible rfl)
             focus (simp only [Act.put, List.setIfInBounds_toArray, List.set_cons_succ, List.set_cons_zero]; try rfl))
          | (refine Chain.skip (a' := ?_) rfl rfl rfl ?_ ?_
             rotate_left 1
             focus (simp only [Act.put, List.setIfInBounds_toArray, List.set_cons_succ, List.set_cons_zero]; try rfl)))
        refine Chain.end_ (fun wz hwz _ => ?_)
        have hR2 := HR.out.below hwz
        have HA3 := Lib.hid (HA2.out hlz)
        clear HAT HAT1 HR HC hwz HA2 HB2 HA
        go_wp2_with fail
        go_roundw
        case rel => exact ⟨q + 1, j, by go_num, rfl, by omega, by omega, hjy, HA3, HB, hR2⟩
        case measure => simp [intOf]; omega
      · have hlz0 := hlz
        clear hlz0
        refine wp_region_facts [(4, (isV (.agg #[.int .i64 X.1, .int .u64 (X.2 : Nat)]), noFact)), (8, (isV (.agg #[.int .i64 Y.1, .int .u64 (Y.2 : Nat)]), noFact)), (9, (isV (.int .i64 Z), noFact))] (by kernel_rfl) 220 (by kernel_rfl) rfl ?_ ?_ ?_
        · apply lookup_ne
          simp only [List.forall_mem_cons, List.not_mem_nil, false_imp_iff, implies_true, and_true]
          exact ⟨⟨_, rfl⟩, ⟨_, rfl⟩, ⟨_, rfl⟩⟩
        · apply lookup_st
          simp only [List.forall_mem_cons, List.not_mem_nil, false_imp_iff, implies_true, and_true]
          refine ⟨?_, ?_, ?_⟩
          · exact fun _ _ _ _ _ => trivial
          · exact fun _ _ _ _ _ => trivial
          · exact fun _ _ _ _ _ => trivial
        repeat (first
          | (refine Chain.step (v := ?_) (a' := ?_) rfl rfl rfl ?_ ?_ ?_
             rotate_left 2
             focus (intro w; go_simp; try with_reducible rfl)
             focus (simp only [Act.put, List.setIfInBounds_toArray, List.set_cons_succ, List.set_cons_zero]; try rfl))
          | (refine Chain.skip (a' := ?_) rfl rfl rfl ?_ ?_
             rotate_left 1
             focus (simp only [Act.put, List.setIfInBounds_toArray, List.set_cons_succ, List.set_cons_zero]; try rfl)))
        refine Chain.call' (a' := ?_) _ rfl rfl rfl rfl (fun wx hw hF => ?_) ?_ ?_
        rotate_left 1
        focus
          obtain ⟨a1, a2, _, _⟩ := HAT.out wx hw
          go_simp
          first | exact ⟨rfl, Below.refl _ _⟩ | exact Below.refl _ _
        focus (simp only [Act.put, List.setIfInBounds_toArray, List.set_cons_succ, List.set_cons_zero]; try rfl)
        repeat (first
          | (refine Chain.step (v := ?_) (a' := ?_) rfl rfl rfl ?_ ?_ ?_
             rotate_left 2
             focus (intro w; go_simp; try with_reducible rfl)
             focus (simp only [Act.put, List.setIfInBounds_toArray, List.set_cons_succ, List.set_cons_zero]; try rfl))
          | (refine Chain.skip (a' := ?_) rfl rfl rfl ?_ ?_
             rotate_left 1
             focus (simp only [Act.put, List.setIfInBounds_toArray, List.set_cons_succ, List.set_cons_zero]; try rfl)))
        refine Chain.call' (a' := ?_) _ rfl rfl rfl rfl (fun wx hw hF => ?_) ?_ ?_
        rotate_left 1
        focus
          obtain ⟨a1, a2, _, _⟩ := HAT1.out wx hw
          go_simp
          first | exact ⟨rfl, Below.refl _ _⟩ | exact Below.refl _ _
        focus (simp only [Act.put, List.setIfInBounds_toArray, List.set_cons_succ, List.set_cons_zero]; try rfl)
        repeat (first
          | (refine Chain.step (v := ?_) (a' := ?_) rfl rfl rfl ?_ ?_ ?_
             rotate_left 2
             focus (intro w; go_simp; try with_reducible rfl)
             focus (simp only [Act.put, List.setIfInBounds_toArray, List.set_cons_succ, List.set_cons_zero]; try rfl))
          | (refine Chain.skip (a' := ?_) rfl rfl rfl ?_ ?_
             rotate_left 1
             focus (simp only [Act.put, List.setIfInBounds_toArray, List.set_cons_succ, List.set_cons_zero]; try rfl)))
        refine Chain.call' (a' := ?_) _ rfl rfl rfl rfl (fun wx hw hF => ?_) ?_ ?_
        rotate_left 1
        focus
          go_simp; (with_reducible refine (HC.out _).mono ?_); exact (fun e w' ⟨h1, h2⟩ => by subst h1; exact ⟨rfl, h2⟩)
        focus (simp only [Act.put, List.setIfInBounds_toArray, List.set_cons_succ, List.set_cons_zero]; try rfl)
        repeat (first
          | (refine Chain.step (v := ?_) (a' := ?_) rfl rfl rfl ?_ ?_ ?_
             rotate_left 2
             focus (intro w; go_simp; try with_reducible rfl)
             focus (simp only [Act.put, List.setIfInBounds_toArray, List.set_cons_succ, List.set_cons_zero]; try rfl))
          | (refine Chain.skip (a' := ?_) rfl rfl rfl ?_ ?_
             rotate_left 1
             focus (simp only [Act.put, List.setIfInBounds_toArray, List.set_cons_succ, List.set_cons_zero]; try rfl)))
        refine Chain.end_ (fun wz hwz _ => ?_)
        have hR2 := HR.out.below hwz
        have HB3 := Lib.hid (HB2.out hlz)
        clear HAT HAT1 HR HC hwz HA2 HB2 HB
        go_wp2_with fail
        go_roundw
        case rel => exact ⟨i, q, rfl, rfl, hxi, by omega, by omega, HA, HB3, hR2⟩
        case measure => simp [intOf]; omega
    · obtain rfl : i = j := by omega
      obtain ⟨i1, hi1⟩ : ∃ i1, i = i1 + 1 := ⟨i - 1, by omega⟩
      have hi2 : IntKind.i64.wrap ((i : Int) - 1) = (i1 : Int) := by rw [IntKind.wrap_i64]; omega
      have hi3 : (i : Int) - 1 = (i1 : Int) := by omega
      have hfin := left_one hxi hjy H1.out H2.out HT.out (fun k k1 k2 => by have := HA.out k k1 k2; rw [HF0.out] at this; exact this) (fun k k1 k2 => by have := HB.out k k1 k2; rw [HF0.out] at this; exact this)
      have HFIN := Lib.hid hfin
      have HI1 := Lib.hid hi1
      clear hfin hi1
      have hxi1 : x ≤ i1 := by have := HI1.out; omega
      have hi1n : i1 < n := by have := HI1.out; omega
      go_wp2_with fail
      clear hi2 hi3 hgo
      go_loopw [13] (fun kv wi => ∃ k : Nat, kv = .int .i64 k ∧ x ≤ k ∧ k ≤ i1 ∧ Rw W b o n c (rot x (x + 1) (k + 1) f0) wi) (fun kv _ => i1 - (intOf kv).toNat)
      case atStart => exact ⟨x, rfl, Nat.le_refl _, hxi1, by rw [rot_none (.inr rfl) (by omega) (Nat.le_refl _)]; exact hR⟩
      case round =>
        obtain ⟨k, rfl, hxk, hki, hI⟩ := hrel
        clear hR
        have hi2 : IntKind.i64.wrap ((i : Int) - 1) = (i1 : Int) := by have := HI1.out; rw [IntKind.wrap_i64]; omega
        have hi3 : (i : Int) - 1 = (i1 : Int) := by have := HI1.out; omega
        by_cases hgo : k < i1
        · have hup := rot_up hxk f0
          obtain ⟨g, hg⟩ : ∃ g, g = rot x (x + 1) (k + 1) f0 := ⟨_, rfl⟩
          rw [← hg] at hI hup
          have hkn : k < n := by omega
          have hkn1 : k + 1 < n := by omega
          have hkn2 : (k : Int) < (n : Int) := by omega
          have hkn3 : (k : Int) + 1 < (n : Int) := by omega
          have hk0 : (0 : Int) ≤ (k : Int) + 1 := by omega
          have hkt : ((k : Int) + 1).toNat = k + 1 := by omega
          have hkw : IntKind.i64.wrap ((k : Int) + 1) = (k : Int) + 1 := by rw [IntKind.wrap_i64]; omega
          have hsw := hI.swap hkn hkn1
          rw [hup] at hsw
          obtain ⟨a1, a2, a3, a4⟩ := hI.at_ hkn
          obtain ⟨b1, b2, b3, b4⟩ := hI.at_ hkn1
          have hq1 := (hI.put hkn (g (k + 1))).at_ hkn1
          rw [if_neg (show ¬ k + 1 = k by omega)] at hq1
          obtain ⟨d1, d2, d3, d4⟩ := hq1
          have HS := Lib.hid hsw
          have hlt := hI.lt (by omega)
          clear hsw hup hg hI
          go_upto_region 11 with fail
          go_region
          have hR2 := HS.out.below (Below.refl _ _).drew
          clear a1 a2 a3 a4 b1 b2 b3 b4 d1 d2 d3 d4 HS hlt
          go_wp2_with fail
          go_roundw
          case rel => exact ⟨k + 1, by go_num, by omega, by omega, hR2⟩
          case measure => simp [intOf]; omega
        · obtain rfl : k = i1 := by omega
          rw [← HI1.out, HF0.out, ← rot_fst] at hI
          go_wp2_with fail
          go_end0
          exact ⟨rfl, _, HFIN.out.1, HFIN.out.2, hI⟩
set_option maxHeartbeats 8000000 in
set_option maxRecDepth 10000 in
theorem symRight_any (b o n c x m : Nat) (F : Nat → Tg) (W w : World) (h : Rw W b o n c (fun k => (F k).1) w) (hxm : x + 1 < m) (hy : m + 1 ≤ n) (hn : n < 1000000000) (h1 : Sor lt2 x m F) (h2 : Sor lt2 m (m + 1) F) (ht : Tag x m (m + 1) F) :
    Calls Tryz.prog 78 #[.slice (some ⟨b, o, none⟩) n c, .int .i64 (x : Nat), .int .i64 (m : Nat), .int .i64 ((m + 1 : Nat) : Int), fvS] w (RetMg W b o n c x (m + 1) F) := by
  have H1 := Lib.hid h1
  have H2 := Lib.hid h2
  have HT := Lib.hid ht
  clear h1 h2 ht
  obtain ⟨f0, hf0⟩ : ∃ f0 : Nat → Sm, f0 = fun k => (F k).1 := ⟨_, rfl⟩
  rw [← hf0] at h
  have HF0 := Lib.hid hf0
  clear hf0
  obtain ⟨D, hD⟩ : ∃ D : Int, D = (m : Int) - (x : Int) := ⟨_, rfl⟩
  have e1 : IntKind.i64.wrap ((m : Int) - (x : Int)) = D := by rw [IntKind.wrap_i64]; omega
  have e2 : (m : Int) - (x : Int) = D := hD.symm
  have e3 : ¬ D = 1 := by omega
  have e4 : IntKind.i64.wrap ((m : Int) + 1 - (m : Int)) = 1 := by rw [IntKind.wrap_i64]; omega
  have e5 : (m : Int) + 1 - (m : Int) = 1 := by omega
  clear hD
  go_enter Tryz.func78, Tryz.ntmps78
  go_wp2_with fail
  clear e1 e2 e3 e4 e5
  go_loopw [14, 15] (fun iv jv wr => ∃ (i j : Nat), iv = .int .i64 i ∧ jv = .int .i64 j ∧ x ≤ i ∧ i ≤ j ∧ j ≤ m ∧ Hid (∀ k, x ≤ k → k < i → ¬ (f0 m).1 < (f0 k).1) ∧ Hid (∀ k, j ≤ k → k < m → (f0 m).1 < (f0 k).1) ∧ Rw W b o n c f0 wr) (fun iv jv _ => (intOf jv).toNat - (intOf iv).toNat)
  case atStart => exact ⟨x, m, rfl, rfl, Nat.le_refl _, by omega, Nat.le_refl _, Lib.hid (fun _ _ _ => by omega), Lib.hid (fun _ _ _ => by omega), h⟩
  case round =>
    obtain ⟨i, j, rfl, rfl, hxi, hij, hjy, HA, HB, hR⟩ := hrel
    clear h
    by_cases hgo : i < j
    · obtain ⟨q, hq⟩ : ∃ q, q = (i + j) / 2 := ⟨_, rfl⟩
      have hq1 : i ≤ q := by omega
      have hq2 : q < j := by omega
      have u1 : IntKind.i64.wrap ((i : Int) + (j : Int)) = (i : Int) + (j : Int) := by rw [IntKind.wrap_i64]; omega
      have hgz : (i : Int) < (j : Int) := by omega
      have hqz : ((i : Int) + (j : Int)) / 2 = (q : Int) := by omega
      have hqn : q < n := by omega
      have hmn : m < n := by omega
      have hqn2 : (q : Int) < (n : Int) := by omega
      have hmn2 : (m : Int) < (n : Int) := by omega
      obtain ⟨X, hX⟩ : ∃ X, X = f0 m := ⟨_, rfl⟩
      obtain ⟨Y, hY⟩ : ∃ Y, Y = f0 q := ⟨_, rfl⟩
      have hat := fun (w' : World) (hb : Below wr.heap.size wr w') => (hR.below hb).at_ hmn
      have hat1 := fun (w' : World) (hb : Below wr.heap.size wr w') => (hR.below hb).at_ hqn
      rw [← hX] at hat
      rw [← hY] at hat1
      have HAT := Lib.hid hat
      have HAT1 := Lib.hid hat1
      have HR := Lib.hid hR
      have hc := samCmp_any X Y
      have hz := cmpZ_lt X.1 Y.1
      obtain ⟨Z, hZ⟩ : ∃ Z, Z = cmpZ X.1 Y.1 := ⟨_, rfl⟩
      rw [← hZ] at hc hz
      have hA2 : ¬ Z < 0 → ∀ k, x ≤ k → k < q + 1 → ¬ (f0 m).1 < (f0 k).1 := fun hlz k k1 k2 => by
        have hlt : ¬ X.1 < Y.1 := fun hh => hlz (hz.2 hh)
        have l := H1.out.le (i := k) (j := q) k1 (by omega) (by omega)
        rw [hX, hY] at hlt
        rw [HF0.out] at hlt ⊢
        exact fun hh => hlt (Int.lt_of_lt_of_le hh l)
      have hB2 : Z < 0 → ∀ k, q ≤ k → k < m → (f0 m).1 < (f0 k).1 := fun hlz k k1 k2 => by
        have hlt := hz.1 hlz
        have l := H1.out.le (i := q) (j := k) (by omega) k1 k2
        rw [hX, hY] at hlt
        rw [HF0.out] at hlt ⊢
        exact Int.lt_of_lt_of_le hlt l
      have HA2 := Lib.hid hA2
      have HB2 := Lib.hid hB2
      have HC := Lib.hid hc
      clear hat hat1 hR hc hz hZ hX hY hA2 hB2 hq
      go_upto_region 17 with fail
      by_cases hlz : Z < 0
      · have hlz0 := hlz
        clear hlz0
        refine wp_region_facts [(4, (isV (.agg #[.int .i64 X.1, .int .u64 (X.2 : Nat)]), noFact)), (8, (isV (.agg #[.int .i64 Y.1, .int .u64 (Y.2 : Nat)]), noFact)), (9, (isV (.int .i64 Z), noFact))] (by kernel_rfl) 220 (by kernel_rfl) rfl ?_ ?_ ?_
        · apply lookup_ne
          simp only [List.forall_mem_cons, List.not_mem_nil, false_imp_iff, implies_true, and_true]
          exact ⟨⟨_, rfl⟩, ⟨_, rfl⟩, ⟨_, rfl⟩⟩
        · apply lookup_st
          simp only [List.forall_mem_cons, List.not_mem_nil, false_imp_iff, implies_true, and_true]
          refine ⟨?_, ?_, ?_⟩
          · exact fun _ _ _ _ _ => trivial
          · exact fun _ _ _ _ _ => trivial
          · exact fun _ _ _ _ _ => trivial
        repeat (first
          | (refine Chain.step (v := ?_) (a' := ?_) rfl rfl rfl ?_ ?_ ?_
             rotate_left 2
             focus (intro w; go_simp; try with_reducible rfl)
             focus (simp only [Act.put, List.setIfInBounds_toArray, List.set_cons_succ, List.set_cons_zero]; try rfl))
          | (refine Chain.skip (a' := ?_) rfl rfl rfl ?_ ?_
             rotate_left 1
             focus (simp only [Act.put, List.setIfInBounds_toArray, List.set_cons_succ, List.set_cons_zero]; try rfl)))
        refine Chain.call' (a' := ?_) _ rfl rfl rfl rfl (fun wx hw hF => ?_) ?_ ?_
        rotate_left 1
        focus
          obtain ⟨a1, a2, _, _⟩ := HAT.out wx hw
          go_simp
          first | exact ⟨rfl, Below.refl _ _⟩ | exact Below.refl _ _
        focus (simp only [Act.put, List.setIfInBounds_toArray, List.set_cons_succ, List.set_cons_zero]; try rfl)
        repeat (first
          | (refine Chain.step (v := ?_) (a' := ?_) rfl rfl rfl ?_ ?_ ?_
             rotate_left 2
             focus (intro w; go_simp; try with_reducible rfl)
             focus (simp only [Act.put, List.setIfInBounds_toArray, List.set_cons_succ, List.set_cons_zero]; try rfl))
          | (refine Chain.skip (a' := ?_) rfl rfl rfl ?_ ?_
             rotate_left 1
             focus (simp only [Act.put, List.setIfInBounds_toArray, List.set_cons_succ, List.set_cons_zero]; try rfl)))
        refine Chain.call' (a' := ?_) _ rfl rfl rfl rfl (fun wx hw hF => ?_) ?_ ?_
        rotate_left 1
        focus
          obtain ⟨a1, a2, _, _⟩ := HAT1.out wx hw
          go_simp
          first | exact ⟨rfl, Below.refl _ _⟩ | exact Below.refl _ _
        focus (simp only [Act.put, List.setIfInBounds_toArray, List.set_cons_succ, List.set_cons_zero]; try rfl)
        repeat (first
          | (refine Chain.step (v := ?_) (a' := ?_) rfl rfl rfl ?_ ?_ ?_
             rotate_left 2
             focus (intro w; go_simp; try with_reducible rfl)
             focus (simp only [Act.put, List.setIfInBounds_toArray, List.set_cons_succ, List.set_cons_zero]; try rfl))
          | (refine Chain.skip (a' := ?_) rfl rfl rfl ?_ ?_
             rotate_left 1
             focus (simp only [Act.put, List.setIfInBounds_toArray, List.set_cons_succ, List.set_cons_zero]; try rfl)))
        refine Chain.call' (a' := ?_) _ rfl rfl rfl rfl (fun wx hw hF => ?_) ?_ ?_
        rotate_left 1
        focus
          go_simp; (with_reducible refine (HC.out _).mono ?_); exact (fun e w' ⟨h1, h2⟩ => by subst h1; exact ⟨rfl, h2⟩)
        focus (simp only [Act.put, List.setIfInBounds_toArray, List.set_cons_succ, List.set_cons_zero]; try rfl)
        repeat (first
          | (refine Chain.step (v := ?_) (a' := ?_) rfl rfl rfl ?_ ?_ ?_
             rotate_left 2
             focus (intro w; go_simp; try with_reducible rfl)
             focus (simp only [Act.put, List.setIfInBounds_toArray, List.set_cons_succ, List.set_cons_zero]; try rfl))
          | (refine Chain.skip (a' := ?_) rfl rfl rfl ?_ ?_
             rotate_left 1
             focus (simp only [Act.put, List.setIfInBounds_toArray, List.set_cons_succ, List.set_cons_zero]; try rfl)))
        refine Chain.end_ (fun wz hwz _ => ?_)
        have hR2 := HR.out.below hwz
        have HB3 := Lib.hid (HB2.out hlz)
        clear HAT HAT1 HR HC hwz HA2 HB2 HB
        go_wp2_with fail
        go_roundw
        case rel => exact ⟨i, q, rfl, rfl, hxi, by omega, by omega, HA, HB3, hR2⟩
        case measure => simp [intOf]; omega
      · have hlz0 := hlz
        clear hlz0
        refine wp_region_facts [(4, (isV (.agg #[.int .i64 X.1, .int .u64 (X.2 : Nat)]), noFact)), (8, (isV (.agg #[.int .i64 Y.1, .int .u64 (Y.2 : Nat)]), noFact)), (9, (isV (.int .i64 Z), noFact))] (by kernel_rfl) 220 (by kernel_rfl) rfl ?_ ?_ ?_
        · apply lookup_ne
          simp only [List.forall_mem_cons, List.not_mem_nil, false_imp_iff, implies_true, and_true]
          exact ⟨⟨_, rfl⟩, ⟨_, rfl⟩, ⟨_, rfl⟩⟩
        · apply lookup_st
          simp only [List.forall_mem_cons, List.not_mem_nil, false_imp_iff, implies_true, and_true]
          refine ⟨?_, ?_, ?_⟩
          · exact fun _ _ _ _ _ => trivial
          · exact fun _ _ _ _ _ => trivial
          · exact fun _ _ _ _ _ => trivial
        repeat (first
          | (refine Chain.step (v := ?_) (a' := ?_) rfl rfl rfl ?_ ?_ ?_
             rotate_left 2
             focus (intro w; go_simp; try with_reducible rfl)
             focus (simp only [Act.put, List.setIfInBounds_toArray, List.set_cons_succ, List.set_cons_zero]; try rfl))
          | (refine Chain.skip (a' := ?_) rfl rfl rfl ?_ ?_
             rotate_left 1
             focus (simp only [Act.put, List.setIfInBounds_toArray, List.set_cons_succ, List.set_cons_zero]; try rfl)))
        refine Chain.call' (a' := ?_) _ rfl rfl rfl rfl (fun wx hw hF => ?_) ?_ ?_
        rotate_left 1
        focus
          obtain ⟨a1, a2, _, _⟩ := HAT.out wx hw
          go_simp
          first | exact ⟨rfl, Below.refl _ _⟩ | exact Below.refl _ _
        focus (simp only [Act.put, List.setIfInBounds_toArray, List.set_cons_succ, List.set_cons_zero]; try rfl)
        repeat (first
          | (refine Chain.step (v := ?_) (a' := ?_) rfl rfl rfl ?_ ?_ ?_
             rotate_left 2
             focus (intro w; go_simp; try with_reducible rfl)
             focus (simp only [Act.put, List.setIfInBounds_toArray, List.set_cons_succ, List.set_cons_zero]; try rfl))
          | (refine Chain.skip (a' := ?_) rfl rfl rfl ?_ ?_
             rotate_left 1
             focus (simp only [Act.put, List.setIfInBounds_toArray, List.set_cons_succ, List.set_cons_zero]; try rfl)))
        refine Chain.call' (a' := ?_) _ rfl rfl rfl rfl (fun wx hw hF => ?_) ?_ ?_
        rotate_left 1
        focus
          obtain ⟨a1, a2, _, _⟩ := HAT1.out wx hw
          go_simp
          first | exact ⟨rfl, Below.refl _ _⟩ | exact Below.refl _ _
        focus (simp only [Act.put, List.setIfInBounds_toArray, List.set_cons_succ, List.set_cons_zero]; try rfl)
        repeat (first
          | (refine Chain.step (v := ?_) (a' := ?_) rfl rfl rfl ?_ ?_ ?_
             rotate_left 2
             focus (intro w; go_simp; try with_reducible rfl)
             focus (simp only [Act.put, List.setIfInBounds_toArray, List.set_cons_succ, List.set_cons_zero]; try rfl))
          | (refine Chain.skip (a' := ?_) rfl rfl rfl ?_ ?_
             rotate_left 1
             focus (simp only [Act.put, List.setIfInBounds_toArray, List.set_cons_succ, List.set_cons_zero]; try rfl)))
        refine Chain.call' (a' := ?_) _ rfl rfl rfl rfl (fun wx hw hF => ?_) ?_ ?_
        rotate_left 1
        focus
          go_simp; (with_reducible refine (HC.out _).mono ?_); exact (fun e w' ⟨h1, h2⟩ => by subst h1; exact ⟨rfl, h2⟩)
        focus (simp only [Act.put, List.setIfInBounds_toArray, List.set_cons_succ, List.set_cons_zero]; try rfl)
        repeat (first
          | (refine Chain.step (v := ?_) (a' := ?_) rfl rfl rfl ?_ ?_ ?_
             rotate_left 2
             focus (intro w; go_simp; try with_reducible rfl)
             focus (simp only [Act.put, List.setIfInBounds_toArray, List.set_cons_succ, List.set_cons_zero]; try rfl))
          | (refine Chain.skip (a' := ?_) rfl rfl rfl ?_ ?_
             rotate_left 1
             focus (simp only [Act.put, List.setIfInBounds_toArray, List.set_cons_succ, List.set_cons_zero]; try rfl)))
        refine Chain.end_ (fun wz hwz _ => ?_)
        have hR2 := HR.out.below hwz
        have HA3 := Lib.hid (HA2.out hlz)
        clear HAT HAT1 HR HC hwz HA2 HB2 HA
        go_wp2_with fail
        go_roundw
        case rel => exact ⟨q + 1, j, by go_num, rfl, by omega, by omega, hjy, HA3, HB, hR2⟩
        case measure => simp [intOf]; omega
    · obtain rfl : i = j := by omega
      have hfin := right_one hxi hjy H1.out H2.out HT.out (fun k k1 k2 => by have := HA.out k k1 k2; rw [HF0.out] at this; exact this) (fun k k1 k2 => by have := HB.out k k1 k2; rw [HF0.out] at this; exact this)
      have HFIN := Lib.hid hfin
      clear hfin
      go_wp2_with fail
      clear hgo
      go_loopw [17] (fun kv wi => ∃ k : Nat, kv = .int .i64 k ∧ i ≤ k ∧ k ≤ m ∧ Rw W b o n c (rot k m (m + 1) f0) wi) (fun kv _ => (intOf kv).toNat)
      case atStart => exact ⟨m, rfl, hjy, Nat.le_refl _, by rw [rot_none (.inl rfl) (Nat.le_refl _) (by omega)]; exact hR⟩
      case round =>
        obtain ⟨k, rfl, hik, hkm, hI⟩ := hrel
        clear hR
        by_cases hgo : i < k
        · obtain ⟨kp, rfl⟩ : ∃ kp, k = kp + 1 := ⟨k - 1, by omega⟩
          have hdn := rot_down (j := kp + 1) (by omega) hkm f0
          rw [Nat.add_sub_cancel] at hdn
          obtain ⟨g, hg⟩ : ∃ g, g = rot (kp + 1) m (m + 1) f0 := ⟨_, rfl⟩
          rw [← hg] at hI hdn
          have hkn : kp < n := by omega
          have hkn1 : kp + 1 < n := by omega
          have hkn2 : (kp : Int) < (n : Int) := by omega
          have hkn3 : (kp : Int) + 1 < (n : Int) := by omega
          have hki : (i : Int) < (kp : Int) + 1 := by omega
          have hk0 : (0 : Int) ≤ (kp : Int) + 1 := by omega
          have hkt : ((kp : Int) + 1).toNat = kp + 1 := by omega
          have hkw : IntKind.i64.wrap (kp : Int) = (kp : Int) := by rw [IntKind.wrap_i64]; omega
          have hkw1 : IntKind.i64.wrap ((kp : Int) + 1 - 1) = (kp : Int) := by rw [IntKind.wrap_i64]; omega
          have hsw := hI.swap hkn1 hkn
          rw [hdn] at hsw
          obtain ⟨a1, a2, a3, a4⟩ := hI.at_ hkn1
          obtain ⟨b1, b2, b3, b4⟩ := hI.at_ hkn
          have hq1 := (hI.put hkn1 (g kp)).at_ hkn
          rw [if_neg (show ¬ kp = kp + 1 by omega)] at hq1
          obtain ⟨d1, d2, d3, d4⟩ := hq1
          have HS := Lib.hid hsw
          have hlt := hI.lt (by omega)
          clear hsw hdn hg hI
          go_upto_region 23 with fail
          go_region
          have hR2 := HS.out.below (Below.refl _ _).drew
          clear a1 a2 a3 a4 b1 b2 b3 b4 d1 d2 d3 d4 HS hlt
          go_wp2_with fail
          go_roundw
          case rel => exact ⟨kp, by go_num, by omega, by omega, hR2⟩
          case measure => simp [intOf]
        · obtain rfl : k = i := by omega
          rw [HF0.out, ← rot_fst] at hI
          go_wp2_with fail
          go_end0
          exact ⟨rfl, _, HFIN.out.1, HFIN.out.2, hI⟩
end Go.Proofs.YtjklcojnbcemoaaGreatDoor
