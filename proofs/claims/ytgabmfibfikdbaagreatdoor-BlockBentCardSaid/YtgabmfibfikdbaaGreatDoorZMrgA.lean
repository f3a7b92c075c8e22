/-
  Layer 14: the walks of merge.Count and merge.Good.
-/
import Derived.Test.YtgabmfibfikdbaaGreatDoorZBokM
import Derived.Test.YtgabmfibfikdbaaGreatDoorZLib11
import Derived.Test.YtgabmfibfikdbaaGreatDoorZLabE
import Derived.Test.YtgabmfibfikdbaaGreatDoorZLib5
import Derived.Test.YtgabmfibfikdbaaGreatDoorZLabU
import Derived.Deep.CutRange
import Derived.Deep.QuietTactic
import Derived.BigQuiet

namespace Go.Proofs.YtgabmfibfikdbaaGreatDoor
open Go.RowKit Go.Bar Go.Bar.Leb Go.Bar.Lab Go.Bar.Xor Go.Bar.Mrg

set_option maxHeartbeats 4000000 in
set_option maxRecDepth 10000 in
theorem mcount_any (v : Value) (t : List Rv) (w : World) (h : TbAt w v t) (hn : cntR (t.map plR) ≤ 1000000000) :
    Calls Tryz.prog 61 #[v] w (RetBelow w (.int .i64 (cntR (t.map plR) : Nat))) := by
  obtain ⟨A, c, rfl, hlc, hcm⟩ := h.shape
  unfold maxLen at hcm
  obtain ⟨N, hN⟩ : ∃ N, N = cntR (t.map plR) := ⟨_, rfl⟩
  rw [← hN] at hn ⊢
  have HT := Lib.hid h
  have HN := Lib.hid hN
  clear h hN
  go_enter Tryz.func61, Tryz.ntmps61
  go_wp2_with fail
  go_loopw [3, 8] (fun s i wr => ∃ k m : Nat, k ≤ t.length ∧ i = .int .i64 k ∧ s = .int .i64 m ∧ Below w.heap.size w wr ∧ m ≤ N ∧ Hid (m = cntR ((t.take k).map plR))) (fun _ i _ => t.length - (intOf i).toNat)
  case atStart => exact ⟨0, 0, Nat.zero_le _, rfl, rfl, Below.refl _ _, Nat.zero_le _, Lib.hid rfl⟩
  case round =>
    obtain ⟨k, m, hk, rfl, rfl, hb, hmn, hm⟩ := hrel
    by_cases hgo : k < t.length
    · obtain ⟨x, hx⟩ : ∃ x, t[k]? = some x := ⟨_, List.getElem?_eq_getElem hgo⟩
      obtain ⟨b, o, rfl, a0, a1, _⟩ := (HT.out.below hb).at_ hx
      have hm2 : m + x.ss.length = cntR ((t.take (k + 1)).map plR) := by
        rw [List.take_add_one, hx, List.map_append]
        show _ = cntR ((t.take k).map plR ++ [plR x])
        rw [cntR_snoc, ← hm.out]
        rfl
      have hle : m + x.ss.length ≤ N := by
        rw [hm2, HN.out, List.map_take]
        exact cntR_take _ _
      have HM2 := Lib.hid hm2
      have hw : IntKind.i64.wrap ((m : Int) + (x.ss.length : Int)) = (m : Int) + (x.ss.length : Int) := by rw [IntKind.wrap_i64]; omega
      clear hx hm2 hm
      go_wp2_with fail
      go_roundw
      case rel => exact ⟨k + 1, m + x.ss.length, by omega, by go_num, by go_num, below_trans hb (below_alloc1 _ _), hle, HM2⟩
      case measure => simp [intOf]; omega
    · obtain rfl : k = t.length := by omega
      have hz : m = N := by rw [hm.out, List.take_length, HN.out]
      subst hz
      clear hm HN
      go_wp2_with fail
      go_ret
      exact ⟨rfl, hb⟩

set_option maxHeartbeats 8000000 in
set_option maxRecDepth 10000 in
theorem mgood_any (v : Value) (t : List Rv) (w : World) (h : TbAt w v t) :
    Calls Tryz.prog 57 #[v] w (RetBelow w (.bool (goodB (t.map plR)))) := by
  obtain ⟨A, c, rfl, hlc, hcm⟩ := h.shape
  unfold maxLen at hcm
  obtain ⟨Z, hZ⟩ : ∃ Z, Z = goodB (t.map plR) := ⟨_, rfl⟩
  rw [← hZ]
  have hZt : GoodP (t.map plR) → Z = true := fun hg => by rw [hZ]; exact goodB_true hg
  have hZf : ¬ GoodP (t.map plR) → Z = false := fun hg => by rw [hZ]; exact goodB_false hg
  have HZT := Lib.hid hZt
  have HZF := Lib.hid hZf
  have HT := Lib.hid h
  clear h hZ hZt hZf
  go_enter Tryz.func57, Tryz.ntmps57
  go_wp2_with fail
  go_loopw [8] (fun i wr => ∃ k : Nat, k ≤ t.length ∧ i = .int .i64 k ∧ Below w.heap.size w wr ∧ Hid (GoodP ((t.map plR).take k))) (fun i _ => t.length - (intOf i).toNat)
  case atStart => exact ⟨0, Nat.zero_le _, rfl, Below.refl _ _, Lib.hid good_zero⟩
  case round =>
    obtain ⟨k, hk, rfl, hb, hg⟩ := hrel
    by_cases hgo : k < t.length
    · obtain ⟨x, hx⟩ : ∃ x, t[k]? = some x := ⟨_, List.getElem?_eq_getElem hgo⟩
      obtain ⟨b, o, rfl, a0, a1, hrx⟩ := (HT.out.below hb).at_ hx
      have hb2 := below_trans hb (below_alloc1 wr (.cells #[.slice x.la x.ls.length x.lc, .slice x.sa x.ss.length x.sc] 94))
      obtain ⟨_, _, _, hs1, hs2⟩ := hrx.2.shape
      have hsl : x.ss.length ≤ 9223372036854775807 := by unfold maxLen at hs2; omega
      clear hs1 hs2
      have hB := Blk.new wr #[.slice x.la x.ls.length x.lc, .slice x.sa x.ss.length x.sc] 94
      go_upto_region 4 with fail
      obtain ⟨X, hX⟩ : ∃ X, X = wr.heap.size := ⟨_, rfl⟩
      obtain ⟨wb, hwb⟩ : ∃ wb, wb = wr.alloc (.cells #[.slice x.la x.ls.length x.lc, .slice x.sa x.ss.length x.sc] 94) := ⟨_, rfl⟩
      rw [← hwb] at hb2 hB ⊢
      rw [← hX] at hB ⊢
      have HX := Lib.hid hx
      have HB := Lib.hid hB
      clear a0 a1 hrx hX hwb hb hx hB
      obtain ⟨B, hBk⟩ : ∃ B, B = (match k with | 0 => false | n + 1 => !decide (cmpL ((t.map plR).getD n ([], [])).1 x.ls < 0)) := ⟨_, rfl⟩
      go_cut [8, 26] from 8 to 48 (fun i s wx => i = .int .i64 k ∧ s = .bool B ∧ Below wb.heap.size wb wx)
      case first =>
        rcases k with _ | n
        · have hf : B = false := hBk
          subst hf
          clear hBk
          refine wp_region_facts [] (by kernel_rfl) 49 (by kernel_rfl) rfl (fun _ _ h => by cases h) (fun _ _ h => by cases h) ?_
          repeat (first
            | (refine Chain.step (v := ?_) (a' := ?_) rfl rfl rfl ?_ ?_ ?_
               rotate_left 2
               focus (intro w; go_simp; try with_reducible rfl)
               focus (simp only [Act.put, List.setIfInBounds_toArray, List.set_cons_succ, List.set_cons_zero]; try rfl))
            | (refine Chain.skip (a' := ?_) rfl rfl rfl ?_ ?_
               rotate_left 1
               focus (simp only [Act.put, List.setIfInBounds_toArray, List.set_cons_succ, List.set_cons_zero]; try rfl)))
          refine Chain.end_ (fun wz hwz _ => ?_)
          go_wp2_with fail
          go_meet
          case rel => exact ⟨rfl, rfl, hwz⟩
        · obtain ⟨y, hy⟩ : ∃ y, t[n]? = some y := ⟨_, List.getElem?_eq_getElem (by omega)⟩
          have hBk : B = !decide (cmpL ((t.map plR).getD n ([], [])).1 x.ls < 0) := hBk
          rw [List.getD_eq_getElem?_getD, List.getElem?_map, hy] at hBk
          have hBk : B = !decide (cmpL y.ls x.ls < 0) := hBk
          obtain ⟨C, hC⟩ : ∃ C, C = cmpL y.ls x.ls := ⟨_, rfl⟩
          have hcm := fun w' (hb : Below w.heap.size w w') => lcompare_any _ _ _ _ w' (((HT.out.below hb).at2 hy).2.2).1 (((HT.out.below hb).at2 HX.out).2.2).1
          rw [← hC] at hcm hBk
          have HCM := Lib.hid hcm
          have HY := Lib.hid hy
          have HBK := Lib.hid hBk
          clear hC hcm hy hBk
          have hw1 : IntKind.i64.wrap (n : Int) = (n : Int) := by rw [IntKind.wrap_i64]; omega
          have hp : (0 : Int) < (n : Int) + 1 := by omega
          have h0n : (0 : Int) ≤ (n : Int) := by omega
          have hnt : (n : Int) < (t.length : Int) := by omega
          refine wp_region_facts [(8, (isV (.slice y.la y.ls.length y.lc), noFact)), (10, (isV (.slice x.la x.ls.length x.lc), noFact)), (11, (isV (.int .i64 C), noFact))] (by kernel_rfl) 49 (by kernel_rfl) rfl ?_ ?_ ?_
          · apply lookup_ne
            simp only [List.forall_mem_cons, List.not_mem_nil, false_imp_iff, implies_true, and_true]
            exact ⟨⟨_, rfl⟩, ⟨_, rfl⟩, ⟨_, rfl⟩⟩
          · apply lookup_st
            simp only [List.forall_mem_cons, List.not_mem_nil, false_imp_iff, implies_true, and_true]
            refine ⟨?_, ?_, ?_⟩
            · exact fun _ _ _ _ _ => trivial
            · exact fun _ _ _ _ _ => trivial
            · exact fun _ _ _ _ _ => trivial
          repeat (first
            | (refine Chain.step (v := ?_) (a' := ?_) rfl rfl rfl ?_ ?_ ?_
               rotate_left 2
               focus (intro w; go_simp; try with_reducible rfl)
               focus (simp only [Act.put, List.setIfInBounds_toArray, List.set_cons_succ, List.set_cons_zero]; try rfl))
            | (refine Chain.skip (a' := ?_) rfl rfl rfl ?_ ?_
               rotate_left 1
               focus (simp only [Act.put, List.setIfInBounds_toArray, List.set_cons_succ, List.set_cons_zero]; try rfl)))
          refine Chain.call' (a' := ?_) _ rfl rfl rfl rfl (fun wx hw hF => ?_) ?_ ?_
          rotate_left 1
          focus
            have g0 := ((HT.out.below (below_trans hb2 hw)).at2 HY.out).1
            go_simp; first | exact ⟨rfl, Below.refl _ _⟩ | exact Below.refl _ _
          focus (simp only [Act.put, List.setIfInBounds_toArray, List.set_cons_succ, List.set_cons_zero]; try rfl)
          repeat (first
            | (refine Chain.step (v := ?_) (a' := ?_) rfl rfl rfl ?_ ?_ ?_
               rotate_left 2
               focus (intro w; go_simp; try with_reducible rfl)
               focus (simp only [Act.put, List.setIfInBounds_toArray, List.set_cons_succ, List.set_cons_zero]; try rfl))
            | (refine Chain.skip (a' := ?_) rfl rfl rfl ?_ ?_
               rotate_left 1
               focus (simp only [Act.put, List.setIfInBounds_toArray, List.set_cons_succ, List.set_cons_zero]; try rfl)))
          refine Chain.call' (a' := ?_) _ rfl rfl rfl rfl (fun wx hw hF => ?_) ?_ ?_
          rotate_left 1
          focus
            obtain ⟨g0, g1⟩ := Blk.c2 (HB.out.below hw); go_simp; first | exact ⟨rfl, Below.refl _ _⟩ | exact Below.refl _ _
          focus (simp only [Act.put, List.setIfInBounds_toArray, List.set_cons_succ, List.set_cons_zero]; try rfl)
          repeat (first
            | (refine Chain.step (v := ?_) (a' := ?_) rfl rfl rfl ?_ ?_ ?_
               rotate_left 2
               focus (intro w; go_simp; try with_reducible rfl)
               focus (simp only [Act.put, List.setIfInBounds_toArray, List.set_cons_succ, List.set_cons_zero]; try rfl))
            | (refine Chain.skip (a' := ?_) rfl rfl rfl ?_ ?_
               rotate_left 1
               focus (simp only [Act.put, List.setIfInBounds_toArray, List.set_cons_succ, List.set_cons_zero]; try rfl)))
          refine Chain.call' (a' := ?_) _ rfl rfl rfl rfl (fun wx hw hF => ?_) ?_ ?_
          rotate_left 1
          focus
            go_simp; (with_reducible refine (HCM.out _ (below_trans hb2 hw)).mono ?_); exact (fun e w' ⟨h1, h2⟩ => by subst h1; exact ⟨rfl, h2⟩)
          focus (simp only [Act.put, List.setIfInBounds_toArray, List.set_cons_succ, List.set_cons_zero]; try rfl)
          repeat (first
            | (refine Chain.step (v := ?_) (a' := ?_) rfl rfl rfl ?_ ?_ ?_
               rotate_left 2
               focus (intro w; go_simp; try with_reducible rfl)
               focus (simp only [Act.put, List.setIfInBounds_toArray, List.set_cons_succ, List.set_cons_zero]; try rfl))
            | (refine Chain.skip (a' := ?_) rfl rfl rfl ?_ ?_
               rotate_left 1
               focus (simp only [Act.put, List.setIfInBounds_toArray, List.set_cons_succ, List.set_cons_zero]; try rfl)))
          refine Chain.end_ (fun wz hwz _ => ?_)
          go_wp2_with fail
          go_meet
          case rel =>
            refine ⟨rfl, ?_, hwz⟩
            rw [HBK.out]
            by_cases hc : C < 0
            · rw [decide_eq_true hc, decide_eq_false (by omega)]; rfl
            · rw [decide_eq_false hc, decide_eq_true (by omega)]; rfl
      case rest =>
        obtain ⟨rfl, rfl, hbw⟩ := hcut
        have hb3 := below_trans hb2 hbw
        have HB3 := Lib.hid (HB.out.below hbw)
        clear HB hb2 hbw
        rcases B with _ | _
        · have hok : Ris x.ss → GoodP ((t.map plR).take (k + 1)) := fun hi => by
            have hxr : (t.map plR)[k]? = some (plR x) := by rw [List.getElem?_map, HX.out]; rfl
            rcases k with _ | n
            · exact good_first hxr hi
            · obtain ⟨y, hy⟩ : ∃ y, t[n]? = some y := ⟨_, List.getElem?_eq_getElem (by omega)⟩
              have hBk : false = !decide (cmpL ((t.map plR).getD n ([], [])).1 x.ls < 0) := hBk
              rw [List.getD_eq_getElem?_getD, List.getElem?_map, hy] at hBk
              have hBk : false = !decide (cmpL y.ls x.ls < 0) := hBk
              refine good_step hg.out (p := plR y) (by rw [List.getElem?_map, hy]; rfl) hxr ?_ hi
              show cmpL y.ls x.ls < 0
              by_cases hc : cmpL y.ls x.ls < 0
              · exact hc
              · rw [decide_eq_false hc] at hBk; cases hBk
          have HOK := Lib.hid hok
          clear hok hBk hg
          go_wp2_with fail
          go_loopw [5] (fun i wr2 => ∃ j : Nat, i = .int .i64 ((j : Int) + 1) ∧ j ≤ x.ss.length ∧ Below w.heap.size w wr2 ∧ Hid (Blk wr2 X 94 #[.slice x.la x.ls.length x.lc, .slice x.sa x.ss.length x.sc]) ∧ Hid (Ris (x.ss.take (j + 1)))) (fun i _ => x.ss.length + 1 - (intOf i).toNat)
          case atStart => exact ⟨0, rfl, Nat.zero_le _, hb3, HB3, Lib.hid (ris_one _)⟩
          case round =>
            obtain ⟨j, rfl, hj, hb4, HB4, hris⟩ := hrel
            clear HB3 hb3
            obtain ⟨c0, c1⟩ := HB4.out.c2
            by_cases hgo2 : j + 1 < x.ss.length
            · obtain ⟨p, hp⟩ : ∃ p, x.ss[j]? = some p := ⟨_, List.getElem?_eq_getElem (by omega)⟩
              obtain ⟨q, hq⟩ : ∃ q, x.ss[j + 1]? = some q := ⟨_, List.getElem?_eq_getElem hgo2⟩
              have hsm := fun w' hb => ((HT.out.below (w' := w') hb).at2 HX.out).2.2.2
              obtain ⟨sb, so, hsa, _, p0, _⟩ := (hsm _ (Below.refl _ _)).at_ hp
              have HSM := Lib.hid hsm
              have HP := Lib.hid hp
              have HQ := Lib.hid hq
              have h1 : (j : Int) + 1 < (x.ss.length : Int) := by omega
              have h2 : IntKind.i64.wrap (j : Int) = (j : Int) := by rw [IntKind.wrap_i64]; omega
              have h3 : (0 : Int) ≤ (j : Int) := by omega
              have h4 : (j : Int) < (x.ss.length : Int) := by omega
              have h5 : ((j : Int) + 1).toNat = j + 1 := by omega
              have h6 : (0 : Int) ≤ (j : Int) + 1 := by omega
              clear hsm hp hq p0
              go_upto_region 9 with fail
              refine wp_region_facts [(1, (isV (.slice x.sa x.ss.length x.sc), noFact)), (6, (isV (.int .i64 p.1), noFact)), (8, (isV (.slice x.sa x.ss.length x.sc), noFact)), (12, (isV (.int .i64 q.1), noFact))] (by kernel_rfl) 49 (by kernel_rfl) rfl ?_ ?_ ?_
              · apply lookup_ne
                simp only [List.forall_mem_cons, List.not_mem_nil, false_imp_iff, implies_true, and_true]
                exact ⟨⟨_, rfl⟩, ⟨_, rfl⟩, ⟨_, rfl⟩, ⟨_, rfl⟩⟩
              · apply lookup_st
                simp only [List.forall_mem_cons, List.not_mem_nil, false_imp_iff, implies_true, and_true]
                refine ⟨?_, ?_, ?_, ?_⟩
                · exact fun _ _ _ _ _ => trivial
                · exact fun _ _ _ _ _ => trivial
                · exact fun _ _ _ _ _ => trivial
                · exact fun _ _ _ _ _ => trivial
              repeat (first
                | (refine Chain.step (v := ?_) (a' := ?_) rfl rfl rfl ?_ ?_ ?_
                   rotate_left 2
                   focus (intro w; go_simp; try with_reducible rfl)
                   focus (simp only [Act.put, List.setIfInBounds_toArray, List.set_cons_succ, List.set_cons_zero]; try rfl))
                | (refine Chain.skip (a' := ?_) rfl rfl rfl ?_ ?_
                   rotate_left 1
                   focus (simp only [Act.put, List.setIfInBounds_toArray, List.set_cons_succ, List.set_cons_zero]; try rfl)))
              refine Chain.call' (a' := ?_) _ rfl rfl rfl rfl (fun wx hw hF => ?_) ?_ ?_
              rotate_left 1
              focus
                obtain ⟨g0, g1⟩ := Blk.c2 (HB4.out.below hw); go_simp; first | exact ⟨rfl, Below.refl _ _⟩ | exact Below.refl _ _
              focus (simp only [Act.put, List.setIfInBounds_toArray, List.set_cons_succ, List.set_cons_zero]; try rfl)
              repeat (first
                | (refine Chain.step (v := ?_) (a' := ?_) rfl rfl rfl ?_ ?_ ?_
                   rotate_left 2
                   focus (intro w; go_simp; try with_reducible rfl)
                   focus (simp only [Act.put, List.setIfInBounds_toArray, List.set_cons_succ, List.set_cons_zero]; try rfl))
                | (refine Chain.skip (a' := ?_) rfl rfl rfl ?_ ?_
                   rotate_left 1
                   focus (simp only [Act.put, List.setIfInBounds_toArray, List.set_cons_succ, List.set_cons_zero]; try rfl)))
              refine Chain.call' (a' := ?_) _ rfl rfl rfl rfl (fun wx hw hF => ?_) ?_ ?_
              rotate_left 1
              focus
                obtain ⟨_, _, he, _, p0, _⟩ := (HSM.out _ (below_trans hb4 hw)).at_ HP.out
                rw [hsa] at he
                injection he with he
                injection he with e1 e2 _
                subst e1; subst e2
                go_simp; first | exact ⟨rfl, Below.refl _ _⟩ | exact Below.refl _ _
              focus (simp only [Act.put, List.setIfInBounds_toArray, List.set_cons_succ, List.set_cons_zero]; try rfl)
              repeat (first
                | (refine Chain.step (v := ?_) (a' := ?_) rfl rfl rfl ?_ ?_ ?_
                   rotate_left 2
                   focus (intro w; go_simp; try with_reducible rfl)
                   focus (simp only [Act.put, List.setIfInBounds_toArray, List.set_cons_succ, List.set_cons_zero]; try rfl))
                | (refine Chain.skip (a' := ?_) rfl rfl rfl ?_ ?_
                   rotate_left 1
                   focus (simp only [Act.put, List.setIfInBounds_toArray, List.set_cons_succ, List.set_cons_zero]; try rfl)))
              refine Chain.call' (a' := ?_) _ rfl rfl rfl rfl (fun wx hw hF => ?_) ?_ ?_
              rotate_left 1
              focus
                obtain ⟨g0, g1⟩ := Blk.c2 (HB4.out.below hw); go_simp; first | exact ⟨rfl, Below.refl _ _⟩ | exact Below.refl _ _
              focus (simp only [Act.put, List.setIfInBounds_toArray, List.set_cons_succ, List.set_cons_zero]; try rfl)
              repeat (first
                | (refine Chain.step (v := ?_) (a' := ?_) rfl rfl rfl ?_ ?_ ?_
                   rotate_left 2
                   focus (intro w; go_simp; try with_reducible rfl)
                   focus (simp only [Act.put, List.setIfInBounds_toArray, List.set_cons_succ, List.set_cons_zero]; try rfl))
                | (refine Chain.skip (a' := ?_) rfl rfl rfl ?_ ?_
                   rotate_left 1
                   focus (simp only [Act.put, List.setIfInBounds_toArray, List.set_cons_succ, List.set_cons_zero]; try rfl)))
              refine Chain.call' (a' := ?_) _ rfl rfl rfl rfl (fun wx hw hF => ?_) ?_ ?_
              rotate_left 1
              focus
                obtain ⟨_, _, he, _, p0, _⟩ := (HSM.out _ (below_trans hb4 hw)).at_ HQ.out
                rw [hsa] at he
                injection he with he
                injection he with e1 e2 _
                subst e1; subst e2
                go_simp; first | exact ⟨rfl, Below.refl _ _⟩ | exact Below.refl _ _
              focus (simp only [Act.put, List.setIfInBounds_toArray, List.set_cons_succ, List.set_cons_zero]; try rfl)
              repeat (first
                | (refine Chain.step (v := ?_) (a' := ?_) rfl rfl rfl ?_ ?_ ?_
                   rotate_left 2
                   focus (intro w; go_simp; try with_reducible rfl)
                   focus (simp only [Act.put, List.setIfInBounds_toArray, List.set_cons_succ, List.set_cons_zero]; try rfl))
                | (refine Chain.skip (a' := ?_) rfl rfl rfl ?_ ?_
                   rotate_left 1
                   focus (simp only [Act.put, List.setIfInBounds_toArray, List.set_cons_succ, List.set_cons_zero]; try rfl)))
              refine Chain.end_ (fun wz hwz _ => ?_)
              have hb5 := below_trans hb4 hwz
              have HB5 := Lib.hid (HB4.out.below hwz)
              by_cases hlt : p.1 < q.1
              · have hs := ris_step hris.out HP.out HQ.out hlt
                have HS := Lib.hid hs
                have hd : decide (q.1 ≤ p.1) = false := decide_eq_false (by omega)
                clear hs hris
                go_wp2_with fail
                go_roundw
                case rel => exact ⟨j + 1, by go_num, by omega, hb5, HB5, HS⟩
                case measure => simp [intOf]; omega
              · have hz : Z = false := HZF.out (bad_times (k := k) (r := plR x) (by rw [List.getElem?_map, HX.out]; rfl) HP.out HQ.out hlt)
                subst hz
                have hd : decide (q.1 ≤ p.1) = true := decide_eq_true (by omega)
                clear hris
                go_wp2_with fail
                go_ret
                exact ⟨rfl, hb5⟩
            · have hx2 := hris.out
              rw [List.take_of_length_le (by omega)] at hx2
              have HG2 := Lib.hid (HOK.out hx2)
              have h1 : (x.ss.length : Int) ≤ (j : Int) + 1 := by omega
              clear hx2 hris
              go_wp2_with fail
              go_roundw
              case rel => exact ⟨k + 1, by omega, by go_num, hb4, HG2⟩
              case measure => simp [intOf]; omega
        · have hz : Z = false := HZF.out (by
            rcases k with _ | n
            · cases hBk
            · obtain ⟨y, hy⟩ : ∃ y, t[n]? = some y := ⟨_, List.getElem?_eq_getElem (by omega)⟩
              have hBk : true = !decide (cmpL ((t.map plR).getD n ([], [])).1 x.ls < 0) := hBk
              rw [List.getD_eq_getElem?_getD, List.getElem?_map, hy] at hBk
              have hBk : true = !decide (cmpL y.ls x.ls < 0) := hBk
              refine bad_labels (k := n) (p := plR y) (r := plR x) (by rw [List.getElem?_map, hy]; rfl) (by rw [List.getElem?_map, HX.out]; rfl) fun hlt => ?_
              have hlt : cmpL y.ls x.ls < 0 := hlt
              rw [decide_eq_true hlt] at hBk
              cases hBk)
          subst hz
          go_wp2_with fail
          go_ret
          exact ⟨rfl, hb3⟩
    · obtain rfl : k = t.length := by omega
      have hz : Z = true := HZT.out (by have := hg.out; rwa [List.take_of_length_le (by rw [List.length_map]; exact Nat.le_refl _)] at this)
      subst hz
      clear hg
      go_wp2_with fail
      go_ret
      exact ⟨rfl, hb⟩
end Go.Proofs.YtgabmfibfikdbaaGreatDoor
