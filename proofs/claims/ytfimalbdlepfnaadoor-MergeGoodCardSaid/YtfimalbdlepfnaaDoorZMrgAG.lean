/-
  Layer 14: the walk of the reference's Good.
-/
import Derived.Test.YtfimalbdlepfnaaDoorZMrgAE
import Derived.Deep.CutRange

namespace Go.Proofs.YtfimalbdlepfnaaDoor
open Go.RowKit Go.Bar Go.Bar.Leb Go.Bar.Lab Go.Bar.Xor Go.Bar.Mrg

set_option maxHeartbeats 8000000 in
set_option maxRecDepth 10000 in
theorem rgood_any (v : Value) (t : List Rv) (w : World) (h : TbAt w v t) (hs : ∀ x ∈ t, x.ss.length ≤ 1000000) :
    Calls Tryd.prog 19 #[v] w (RetBelow w (.bool (goodB (t.map plR)))) := by
  obtain ⟨A, c, rfl, hlc, hcm⟩ := h.shape
  unfold maxLen at hcm
  obtain ⟨Z, hZ⟩ : ∃ Z, Z = goodB (t.map plR) := ⟨_, rfl⟩
  rw [← hZ]
  have hZt : GoodP (t.map plR) → Z = true := fun hg => by rw [hZ]; exact goodB_true hg
  have hZf : ¬ GoodP (t.map plR) → Z = false := fun hg => by rw [hZ]; exact goodB_false hg
  have HZT := Lib.hid hZt
  have HZF := Lib.hid hZf
  have HT := Lib.hid h
  have HSL := Lib.hid hs
  clear h hZ hZt hZf hs
  go_enter Tryd.func19, Tryd.ntmps19
  go_wp2_with fail
  go_loopw [8] (fun i wr => ∃ k : Nat, k ≤ t.length ∧ i = .int .i64 k ∧ Below w.heap.size w wr ∧ Hid (GoodP ((t.map plR).take k))) (fun i _ => t.length - (intOf i).toNat)
  case atStart => exact ⟨0, Nat.zero_le _, rfl, Below.refl _ _, Lib.hid good_zero⟩
  case round =>
    obtain ⟨k, hk, rfl, hb, hg⟩ := hrel
    by_cases hgo : k < t.length
    · obtain ⟨x, hx⟩ : ∃ x, t[k]? = some x := ⟨_, List.getElem?_eq_getElem hgo⟩
      obtain ⟨xL, xS, la, lc, sa, sc⟩ := x
      obtain ⟨b, o, rfl, a0, a1, hrx⟩ := (HT.out.below hb).at_ hx
      have hrx : PsAt wr (.slice la xL.length lc) xL ∧ SmsAt wr (.slice sa xS.length sc) xS := hrx
      dsimp only at a0 a1
      have hb2 := below_trans hb (below_alloc1 wr (.cells #[.slice la xL.length lc, .slice sa xS.length sc] 47))
      have hB := Blk.new wr #[.slice la xL.length lc, .slice sa xS.length sc] 47
      have hsl : xS.length ≤ 1000000 := HSL.out _ (List.mem_of_getElem? hx)
      go_upto_region 4 with fail
      obtain ⟨X, hX⟩ : ∃ X, X = wr.heap.size := ⟨_, rfl⟩
      obtain ⟨wb, hwb⟩ : ∃ wb, wb = wr.alloc (.cells #[.slice la xL.length lc, .slice sa xS.length sc] 47) := ⟨_, rfl⟩
      rw [← hwb] at hb2 hB ⊢
      rw [← hX] at hB ⊢
      have HX := Lib.hid hx
      have HB := Lib.hid hB
      have hxr : (t.map plR)[k]? = some (xL, xS) := by rw [List.getElem?_map, hx]; rfl
      have HXR := Lib.hid hxr
      have HLA := Lib.hid (show PsAt w (.slice la xL.length lc) xL from (HT.out.2 _ (List.mem_of_getElem? hx)).1)
      have HSA := Lib.hid (show SmsAt w (.slice sa xS.length sc) xS from (HT.out.2 _ (List.mem_of_getElem? hx)).2)
      obtain ⟨c0, c1⟩ := hB.c2
      clear a0 a1 hrx hX hwb hb hx hB hxr
      go_wp2_with fail
      go_loopw [16] (fun i w2 => ∃ j : Nat, i = .int .i64 j ∧ j ≤ xS.length ∧ Hid (Below wb.heap.size wb w2) ∧ Hid (Ris (xS.take j))) (fun i _ => xS.length - (intOf i).toNat)
      case atStart => exact ⟨0, rfl, Nat.zero_le _, Lib.hid (Below.refl _ _), Lib.hid List.Pairwise.nil⟩
      case round =>
        obtain ⟨j, rfl, hj, HBJ, hris⟩ := hrel
        clear c0 c1
        by_cases hgo2 : j < xS.length
        · obtain ⟨q, hq⟩ : ∃ q, xS[j]? = some q := ⟨_, List.getElem?_eq_getElem hgo2⟩
          obtain ⟨sb, so, rfl, _⟩ := HSA.out.at_ hq
          have HQ := Lib.hid hq
          clear hq
          rcases j with _ | j
          · have HR1 := Lib.hid (ris_one xS)
            go_upto_region 7 with fail
            refine wp_region_facts [] (by kernel_rfl) 53 (by kernel_rfl) rfl (fun _ _ h => by cases h) (fun _ _ h => by cases h) ?_
            repeat (first
              | (refine Chain.step (v := ?_) (a' := ?_) rfl rfl rfl ?_ ?_ ?_
                 rotate_left 2
                 focus (intro w; go_simp; try with_reducible rfl)
                 focus (simp only [Act.put, List.setIfInBounds_toArray, List.set_cons_succ, List.set_cons_zero]; try rfl))
              | (refine Chain.skip (a' := ?_) rfl rfl rfl ?_ ?_
                 rotate_left 1
                 focus (simp only [Act.put, List.setIfInBounds_toArray, List.set_cons_succ, List.set_cons_zero]; try rfl)))
            refine Chain.end_ (fun wz hwz _ => ?_)
            have HB5 := Lib.hid (below_trans HBJ.out hwz)
            clear hwz
            go_wp2_with fail
            go_roundw
            case rel => exact ⟨1, rfl, by omega, HB5, HR1⟩
            case measure => simp [intOf]; omega
          · obtain ⟨p, hp⟩ : ∃ p, xS[j]? = some p := ⟨_, List.getElem?_eq_getElem (by omega)⟩
            have HP := Lib.hid hp
            clear hp
            have h1 : (j : Int) + 1 < (xS.length : Int) := by omega
            have h2 : IntKind.i64.wrap (j : Int) = (j : Int) := by rw [IntKind.wrap_i64]; omega
            have h3 : (0 : Int) ≤ (j : Int) := by omega
            have h4 : (j : Int) < (xS.length : Int) := by omega
            have h5 : ((j : Int) + 1).toNat = j + 1 := by omega
            have h6 : (0 : Int) ≤ (j : Int) + 1 := by omega
            have h7 : (0 : Int) < (j : Int) + 1 := by omega
            go_upto_region 7 with fail
            refine wp_region_facts [(4, (isV (.slice (some ⟨sb, so, none⟩) xS.length sc), noFact)), (8, (isV (.int .i64 q.1), noFact)), (10, (isV (.slice (some ⟨sb, so, none⟩) xS.length sc), noFact)), (15, (isV (.int .i64 p.1), noFact))] (by kernel_rfl) 53 (by kernel_rfl) rfl ?_ ?_ ?_
            · apply lookup_ne
              simp only [List.forall_mem_cons, List.not_mem_nil, false_imp_iff, implies_true, and_true]
              exact ⟨⟨_, rfl⟩, ⟨_, rfl⟩, ⟨_, rfl⟩, ⟨_, rfl⟩⟩
            · apply lookup_st
              simp only [List.forall_mem_cons, List.not_mem_nil, false_imp_iff, implies_true, and_true]
              refine ⟨?_, ?_, ?_, ?_⟩
              · exact fun _ _ _ _ _ => trivial
              · exact fun _ _ _ _ _ => trivial
              · exact fun _ _ _ _ _ => trivial
              · exact fun _ _ _ _ _ => trivial
            repeat (first
              | (refine Chain.step (v := ?_) (a' := ?_) rfl rfl rfl ?_ ?_ ?_
                 rotate_left 2
                 focus (intro w; go_simp; try with_reducible rfl)
                 focus (simp only [Act.put, List.setIfInBounds_toArray, List.set_cons_succ, List.set_cons_zero]; try rfl))
              | (refine Chain.skip (a' := ?_) rfl rfl rfl ?_ ?_
                 rotate_left 1
                 focus (simp only [Act.put, List.setIfInBounds_toArray, List.set_cons_succ, List.set_cons_zero]; try rfl)))
            refine Chain.call' (a' := ?_) _ rfl rfl rfl rfl (fun wx hw hF => ?_) ?_ ?_
            rotate_left 1
            focus
              obtain ⟨g0, g1⟩ := Blk.c2 (HB.out.below (below_trans HBJ.out hw)); go_simp; first | exact ⟨rfl, Below.refl _ _⟩ | exact Below.refl _ _
            focus (simp only [Act.put, List.setIfInBounds_toArray, List.set_cons_succ, List.set_cons_zero]; try rfl)
            repeat (first
              | (refine Chain.step (v := ?_) (a' := ?_) rfl rfl rfl ?_ ?_ ?_
                 rotate_left 2
                 focus (intro w; go_simp; try with_reducible rfl)
                 focus (simp only [Act.put, List.setIfInBounds_toArray, List.set_cons_succ, List.set_cons_zero]; try rfl))
              | (refine Chain.skip (a' := ?_) rfl rfl rfl ?_ ?_
                 rotate_left 1
                 focus (simp only [Act.put, List.setIfInBounds_toArray, List.set_cons_succ, List.set_cons_zero]; try rfl)))
            refine Chain.call' (a' := ?_) _ rfl rfl rfl rfl (fun wx hw hF => ?_) ?_ ?_
            rotate_left 1
            focus
              obtain ⟨g0, _⟩ := (HSA.out.below (below_trans hb2 (below_trans HBJ.out hw))).at2 HQ.out
              go_simp; first | exact ⟨rfl, Below.refl _ _⟩ | exact Below.refl _ _
            focus (simp only [Act.put, List.setIfInBounds_toArray, List.set_cons_succ, List.set_cons_zero]; try rfl)
            repeat (first
              | (refine Chain.step (v := ?_) (a' := ?_) rfl rfl rfl ?_ ?_ ?_
                 rotate_left 2
                 focus (intro w; go_simp; try with_reducible rfl)
                 focus (simp only [Act.put, List.setIfInBounds_toArray, List.set_cons_succ, List.set_cons_zero]; try rfl))
              | (refine Chain.skip (a' := ?_) rfl rfl rfl ?_ ?_
                 rotate_left 1
                 focus (simp only [Act.put, List.setIfInBounds_toArray, List.set_cons_succ, List.set_cons_zero]; try rfl)))
            refine Chain.call' (a' := ?_) _ rfl rfl rfl rfl (fun wx hw hF => ?_) ?_ ?_
            rotate_left 1
            focus
              obtain ⟨g0, g1⟩ := Blk.c2 (HB.out.below (below_trans HBJ.out hw)); go_simp; first | exact ⟨rfl, Below.refl _ _⟩ | exact Below.refl _ _
            focus (simp only [Act.put, List.setIfInBounds_toArray, List.set_cons_succ, List.set_cons_zero]; try rfl)
            repeat (first
              | (refine Chain.step (v := ?_) (a' := ?_) rfl rfl rfl ?_ ?_ ?_
                 rotate_left 2
                 focus (intro w; go_simp; try with_reducible rfl)
                 focus (simp only [Act.put, List.setIfInBounds_toArray, List.set_cons_succ, List.set_cons_zero]; try rfl))
              | (refine Chain.skip (a' := ?_) rfl rfl rfl ?_ ?_
                 rotate_left 1
                 focus (simp only [Act.put, List.setIfInBounds_toArray, List.set_cons_succ, List.set_cons_zero]; try rfl)))
            refine Chain.call' (a' := ?_) _ rfl rfl rfl rfl (fun wx hw hF => ?_) ?_ ?_
            rotate_left 1
            focus
              obtain ⟨g0, _⟩ := (HSA.out.below (below_trans hb2 (below_trans HBJ.out hw))).at2 HP.out
              go_simp; first | exact ⟨rfl, Below.refl _ _⟩ | exact Below.refl _ _
            focus (simp only [Act.put, List.setIfInBounds_toArray, List.set_cons_succ, List.set_cons_zero]; try rfl)
            repeat (first
              | (refine Chain.step (v := ?_) (a' := ?_) rfl rfl rfl ?_ ?_ ?_
                 rotate_left 2
                 focus (intro w; go_simp; try with_reducible rfl)
                 focus (simp only [Act.put, List.setIfInBounds_toArray, List.set_cons_succ, List.set_cons_zero]; try rfl))
              | (refine Chain.skip (a' := ?_) rfl rfl rfl ?_ ?_
                 rotate_left 1
                 focus (simp only [Act.put, List.setIfInBounds_toArray, List.set_cons_succ, List.set_cons_zero]; try rfl)))
            refine Chain.end_ (fun wz hwz _ => ?_)
            have HB5 := Lib.hid (below_trans HBJ.out hwz)
            clear hwz
            by_cases hlt : p.1 < q.1
            · have hs := ris_step hris.out HP.out HQ.out hlt
              have HS := Lib.hid hs
              have hd : decide (q.1 ≤ p.1) = false := decide_eq_false (by omega)
              clear hs hris
              go_wp2_with fail
              go_roundw
              case rel => exact ⟨j + 1 + 1, by go_num, by omega, HB5, HS⟩
              case measure => simp [intOf]; omega
            · have hz : Z = false := HZF.out (bad_times (k := k) (r := (xL, xS)) HXR.out HP.out HQ.out hlt)
              subst hz
              have hd : decide (q.1 ≤ p.1) = true := decide_eq_true (by omega)
              have HB6 := Lib.hid (below_trans hb2 HB5.out)
              clear hris
              go_wp2_with fail
              go_ret
              exact ⟨rfl, HB6.out⟩
        · obtain rfl : j = xS.length := by omega
          have hxs := hris.out
          rw [List.take_length] at hxs
          have HRS := Lib.hid hxs
          clear hxs hris hgo2
          rcases k with _ | n
          · have HG2 := Lib.hid (good_first HXR.out HRS.out)
            go_upto_region 10 with fail
            refine wp_region_facts [] (by kernel_rfl) 53 (by kernel_rfl) rfl (fun _ _ h => by cases h) (fun _ _ h => by cases h) ?_
            repeat (first
              | (refine Chain.step (v := ?_) (a' := ?_) rfl rfl rfl ?_ ?_ ?_
                 rotate_left 2
                 focus (intro w; go_simp; try with_reducible rfl)
                 focus (simp only [Act.put, List.setIfInBounds_toArray, List.set_cons_succ, List.set_cons_zero]; try rfl))
              | (refine Chain.skip (a' := ?_) rfl rfl rfl ?_ ?_
                 rotate_left 1
                 focus (simp only [Act.put, List.setIfInBounds_toArray, List.set_cons_succ, List.set_cons_zero]; try rfl)))
            refine Chain.end_ (fun wz hwz _ => ?_)
            have HB5 := Lib.hid (below_trans hb2 (below_trans HBJ.out hwz))
            clear hwz
            go_wp2_with fail
            go_roundw
            case rel => exact ⟨1, by omega, rfl, HB5.out, HG2⟩
            case measure => simp [intOf]; omega
          · obtain ⟨y, hy⟩ : ∃ y, t[n]? = some y := ⟨_, List.getElem?_eq_getElem (by omega)⟩
            obtain ⟨C, hC⟩ : ∃ C, C = cmpL y.ls xL := ⟨_, rfl⟩
            have hcm := fun w' (hb : Below w.heap.size w w') => rcompare_any _ _ _ _ w' (((HT.out.below hb).at2 hy).2.2).1 (HLA.out.below hb)
            rw [← hC] at hcm
            have HCM := Lib.hid hcm
            have HY := Lib.hid hy
            have hyr : (t.map plR)[n]? = some (plR y) := by rw [List.getElem?_map, hy]; rfl
            have HYR := Lib.hid hyr
            have HC := Lib.hid hC
            clear hC hcm hy hyr
            have hw1 : IntKind.i64.wrap (n : Int) = (n : Int) := by rw [IntKind.wrap_i64]; omega
            have hp : (0 : Int) < (n : Int) + 1 := by omega
            have h0n : (0 : Int) ≤ (n : Int) := by omega
            have hnt : (n : Int) < (t.length : Int) := by omega
            go_upto_region 10 with fail
            refine wp_region_facts [(8, (isV (.slice y.la y.ls.length y.lc), noFact)), (10, (isV (.slice la xL.length lc), noFact)), (11, (isV (.int .i64 C), noFact))] (by kernel_rfl) 53 (by kernel_rfl) rfl ?_ ?_ ?_
            · apply lookup_ne
              simp only [List.forall_mem_cons, List.not_mem_nil, false_imp_iff, implies_true, and_true]
              exact ⟨⟨_, rfl⟩, ⟨_, rfl⟩, ⟨_, rfl⟩⟩
            · apply lookup_st
              simp only [List.forall_mem_cons, List.not_mem_nil, false_imp_iff, implies_true, and_true]
              refine ⟨?_, ?_, ?_⟩
              · exact fun _ _ _ _ _ => trivial
              · exact fun _ _ _ _ _ => trivial
              · exact fun _ _ _ _ _ => trivial
            repeat (first
              | (refine Chain.step (v := ?_) (a' := ?_) rfl rfl rfl ?_ ?_ ?_
                 rotate_left 2
                 focus (intro w; go_simp; try with_reducible rfl)
                 focus (simp only [Act.put, List.setIfInBounds_toArray, List.set_cons_succ, List.set_cons_zero]; try rfl))
              | (refine Chain.skip (a' := ?_) rfl rfl rfl ?_ ?_
                 rotate_left 1
                 focus (simp only [Act.put, List.setIfInBounds_toArray, List.set_cons_succ, List.set_cons_zero]; try rfl)))
            refine Chain.call' (a' := ?_) _ rfl rfl rfl rfl (fun wx hw hF => ?_) ?_ ?_
            rotate_left 1
            focus
              have g0 := ((HT.out.below (below_trans hb2 (below_trans HBJ.out hw))).at2 HY.out).1
              go_simp; first | exact ⟨rfl, Below.refl _ _⟩ | exact Below.refl _ _
            focus (simp only [Act.put, List.setIfInBounds_toArray, List.set_cons_succ, List.set_cons_zero]; try rfl)
            repeat (first
              | (refine Chain.step (v := ?_) (a' := ?_) rfl rfl rfl ?_ ?_ ?_
                 rotate_left 2
                 focus (intro w; go_simp; try with_reducible rfl)
                 focus (simp only [Act.put, List.setIfInBounds_toArray, List.set_cons_succ, List.set_cons_zero]; try rfl))
              | (refine Chain.skip (a' := ?_) rfl rfl rfl ?_ ?_
                 rotate_left 1
                 focus (simp only [Act.put, List.setIfInBounds_toArray, List.set_cons_succ, List.set_cons_zero]; try rfl)))
            refine Chain.call' (a' := ?_) _ rfl rfl rfl rfl (fun wx hw hF => ?_) ?_ ?_
            rotate_left 1
            focus
              obtain ⟨g0, g1⟩ := Blk.c2 (HB.out.below (below_trans HBJ.out hw)); go_simp; first | exact ⟨rfl, Below.refl _ _⟩ | exact Below.refl _ _
            focus (simp only [Act.put, List.setIfInBounds_toArray, List.set_cons_succ, List.set_cons_zero]; try rfl)
            repeat (first
              | (refine Chain.step (v := ?_) (a' := ?_) rfl rfl rfl ?_ ?_ ?_
                 rotate_left 2
                 focus (intro w; go_simp; try with_reducible rfl)
                 focus (simp only [Act.put, List.setIfInBounds_toArray, List.set_cons_succ, List.set_cons_zero]; try rfl))
              | (refine Chain.skip (a' := ?_) rfl rfl rfl ?_ ?_
                 rotate_left 1
                 focus (simp only [Act.put, List.setIfInBounds_toArray, List.set_cons_succ, List.set_cons_zero]; try rfl)))
            refine Chain.call' (a' := ?_) _ rfl rfl rfl rfl (fun wx hw hF => ?_) ?_ ?_
            rotate_left 1
            focus
              go_simp; (with_reducible refine (HCM.out _ (below_trans hb2 (below_trans HBJ.out hw))).mono ?_); exact (fun e w' ⟨h1, h2⟩ => by subst h1; exact ⟨rfl, h2⟩)
            focus (simp only [Act.put, List.setIfInBounds_toArray, List.set_cons_succ, List.set_cons_zero]; try rfl)
            repeat (first
              | (refine Chain.step (v := ?_) (a' := ?_) rfl rfl rfl ?_ ?_ ?_
                 rotate_left 2
                 focus (intro w; go_simp; try with_reducible rfl)
                 focus (simp only [Act.put, List.setIfInBounds_toArray, List.set_cons_succ, List.set_cons_zero]; try rfl))
              | (refine Chain.skip (a' := ?_) rfl rfl rfl ?_ ?_
                 rotate_left 1
                 focus (simp only [Act.put, List.setIfInBounds_toArray, List.set_cons_succ, List.set_cons_zero]; try rfl)))
            refine Chain.end_ (fun wz hwz _ => ?_)
            have HB5 := Lib.hid (below_trans hb2 (below_trans HBJ.out hwz))
            clear hwz
            by_cases hlt : C < 0
            · have HG2 := Lib.hid (good_step hg.out HYR.out HXR.out (by rw [HC.out] at hlt; exact hlt) HRS.out)
              have hd : decide (0 ≤ C) = false := decide_eq_false (by omega)
              go_wp2_with fail
              go_roundw
              case rel => exact ⟨n + 1 + 1, by omega, by go_num, HB5.out, HG2⟩
              case measure => simp [intOf]; omega
            · have hz : Z = false := HZF.out (bad_labels HYR.out HXR.out (by rw [HC.out] at hlt; exact hlt))
              subst hz
              have hd : decide (0 ≤ C) = true := decide_eq_true (by omega)
              go_wp2_with fail
              go_ret
              exact ⟨rfl, HB5.out⟩
    · obtain rfl : k = t.length := by omega
      have hz : Z = true := HZT.out (by have := hg.out; rwa [List.take_of_length_le (by rw [List.length_map]; exact Nat.le_refl _)] at this)
      subst hz
      clear hg
      go_wp2_with fail
      go_ret
      exact ⟨rfl, hb⟩
end Go.Proofs.YtfimalbdlepfnaaDoor
