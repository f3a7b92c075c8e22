/-
  Layer 14: the walk of the reference's Same, of tables that are the same.
-/
import Derived.Test.YtjklcojnbcemoaaGreatDoorZRws
import Derived.Test.YtjklcojnbcemoaaGreatDoorZCut
import Derived.Test.YtjklcojnbcemoaaGreatDoorZLib5
import Derived.Test.YtjklcojnbcemoaaGreatDoorZLib9
import Derived.Deep.CutRange

namespace Go.Proofs.YtjklcojnbcemoaaGreatDoor
open Go.RowKit Go.Bar Go.Bar.Leb Go.Bar.Lab Go.Bar.Xor Go.Bar.Mrg

theorem SmsAt.at2 {w : World} {b o n c i : Nat} {l : List Sm} {x : Sm} (h : SmsAt w (.slice (some ⟨b, o, none⟩) n c) l) (hi : l[i]? = some x) : w.cell? ⟨b, o + i * 2, none⟩ = some (.int .i64 x.1) ∧ w.cell? ⟨b, o + i * 2 + 1, none⟩ = some (.int .u64 (x.2 : Nat)) := by
  obtain ⟨b', o', he, _, h1, h2⟩ := h.at_ hi
  injection he with he
  injection he with e1 e2 _
  subst e1; subst e2
  exact ⟨h1, h2⟩

set_option maxHeartbeats 8000000 in
set_option maxRecDepth 10000 in
theorem rsame_any (v v' : Value) (t t' : List Rv) (w : World) (h : TbAt w v t) (h' : TbAt w v' t') (he : t.map plR = t'.map plR) :
    Calls Tryz.prog 10 #[v, v'] w (RetBelow w (.bool true)) := by
  obtain ⟨A, c, rfl, hlc, hcm⟩ := h.shape
  obtain ⟨A', c', rfl, hlc', hcm'⟩ := h'.shape
  unfold maxLen at hcm hcm'
  have hlen : t'.length = t.length := by have := congrArg List.length he; simpa using this.symm
  obtain ⟨n, hn⟩ : ∃ n, n = t.length := ⟨_, rfl⟩
  rw [hlen]
  rw [← hn] at hlc hlen ⊢
  have HT := Lib.hid h
  have HT' := Lib.hid h'
  have HE := Lib.hid he
  have HN := Lib.hid hn
  have HL := Lib.hid hlen
  clear h h' he hn hlen hlc'
  go_enter Tryz.func10, Tryz.ntmps10
  go_wp2_with fail
  go_loopw [14] (fun i wr => ∃ k : Nat, k ≤ n ∧ i = .int .i64 k ∧ Below w.heap.size w wr) (fun i _ => n - (intOf i).toNat)
  case atStart => exact ⟨0, Nat.zero_le _, rfl, Below.refl _ _⟩
  case round =>
    obtain ⟨k, hk, rfl, hb⟩ := hrel
    by_cases hgo : k < n
    · obtain ⟨x, hx⟩ : ∃ x, t[k]? = some x := ⟨_, List.getElem?_eq_getElem (by have := HN.out; omega)⟩
      obtain ⟨y, hy⟩ : ∃ y, t'[k]? = some y := ⟨_, List.getElem?_eq_getElem (by have := HL.out; omega)⟩
      have hxy : plR x = plR y := by
        have h1 : (t.map plR)[k]? = some (plR x) := by rw [List.getElem?_map, hx]; rfl
        have h2 : (t'.map plR)[k]? = some (plR y) := by rw [List.getElem?_map, hy]; rfl
        rw [HE.out, h2] at h1
        injection h1 with h1; exact h1.symm
      obtain ⟨b, o, rfl, _, _, hrx⟩ := (HT.out).at_ hx
      obtain ⟨b', o', rfl, _, _, hry⟩ := (HT'.out).at_ hy
      obtain ⟨L, S, la, lc, sa, sc⟩ := x
      obtain ⟨L', S', la', lc', sa', sc'⟩ := y
      obtain ⟨e1, e2⟩ : L = L' ∧ S = S' := by
        injection hxy with e1 e2
        exact ⟨e1, e2⟩
      clear hxy
      subst e1; subst e2
      have hc := fun w' (hb : Below w.heap.size w w') => rcompare_any (.slice la L.length lc) (.slice la' L.length lc') L L w' (hrx.1.below hb) (hry.1.below hb)
      rw [cmpL_self] at hc
      have HC := Lib.hid hc
      have HX := Lib.hid (fun w' (hb : Below w.heap.size w w') => show w'.cell? ⟨b, o + k * 2, none⟩ = some (.slice la L.length lc) ∧ w'.cell? ⟨b, o + k * 2 + 1, none⟩ = some (.slice sa S.length sc) from ⟨((HT.out.below hb).at2 hx).1, ((HT.out.below hb).at2 hx).2.1⟩)
      have HY := Lib.hid (fun w' (hb : Below w.heap.size w w') => show w'.cell? ⟨b', o' + k * 2, none⟩ = some (.slice la' L.length lc') ∧ w'.cell? ⟨b', o' + k * 2 + 1, none⟩ = some (.slice sa' S.length sc') from ⟨((HT'.out.below hb).at2 hy).1, ((HT'.out.below hb).at2 hy).2.1⟩)
      obtain ⟨_, _, _, hs1, hs2⟩ := hrx.2.shape
      have hsl : (S.length : Int) ≤ 9223372036854775807 := by unfold maxLen at hs2; dsimp only at hs1; omega
      have HS := Lib.hid (show SmsAt w (.slice sa S.length sc) S from hrx.2)
      have HS' := Lib.hid (show SmsAt w (.slice sa' S.length sc') S from hry.2)
      clear hx hy hrx hry hc hs1 hs2
      go_upto_region 6 with fail
      refine wp_region_facts [(4, (isV (.slice la L.length lc), noFact)), (9, (isV (.slice la' L.length lc'), noFact)), (10, (isV (.int .i64 0), noFact)), (17, (isV (.slice sa S.length sc), noFact)), (23, (isV (.slice sa' S.length sc'), noFact))] (by kernel_rfl) 72 (by kernel_rfl) rfl ?_ ?_ ?_
      · apply lookup_ne
        simp only [List.forall_mem_cons, List.not_mem_nil, false_imp_iff, implies_true, and_true]
        exact ⟨⟨_, rfl⟩, ⟨_, rfl⟩, ⟨_, rfl⟩, ⟨_, rfl⟩, ⟨_, rfl⟩⟩
      · apply lookup_st
        simp only [List.forall_mem_cons, List.not_mem_nil, false_imp_iff, implies_true, and_true]
        refine ⟨?_, ?_, ?_, ?_, ?_⟩
        · exact fun _ _ _ _ _ => trivial
        · exact fun _ _ _ _ _ => trivial
        · exact fun _ _ _ _ _ => trivial
        · exact fun _ _ _ _ _ => trivial
        · exact fun _ _ _ _ _ => trivial
      repeat (first
        | (refine Chain.step (v := ?_) (a' := ?_) rfl rfl rfl ?_ ?_ ?_
           rotate_left 2
           focus (intro w; go_simp; try with_reducible rfl)
           focus (simp only [Act.put, List.setIfInBounds_toArray, List.set_cons_succ, List.set_cons_zero]; try rfl))
        | (refine Chain.skip (a' := ?_) rfl rfl rfl ?_ ?_
           rotate_left 1
           focus (simp only [Act.put, List.setIfInBounds_toArray, List.set_cons_succ, List.set_cons_zero]; try rfl)))
      refine Chain.call' (a' := ?_) _ rfl rfl rfl rfl (fun wx hw hF => ?_) ?_ ?_
      rotate_left 1
      focus
        obtain ⟨g0, g1⟩ := HX.out _ (below_trans hb hw)
        go_simp; first | exact ⟨rfl, Below.refl _ _⟩ | exact Below.refl _ _
      focus (simp only [Act.put, List.setIfInBounds_toArray, List.set_cons_succ, List.set_cons_zero]; try rfl)
      repeat (first
        | (refine Chain.step (v := ?_) (a' := ?_) rfl rfl rfl ?_ ?_ ?_
           rotate_left 2
           focus (intro w; go_simp; try with_reducible rfl)
           focus (simp only [Act.put, List.setIfInBounds_toArray, List.set_cons_succ, List.set_cons_zero]; try rfl))
        | (refine Chain.skip (a' := ?_) rfl rfl rfl ?_ ?_
           rotate_left 1
           focus (simp only [Act.put, List.setIfInBounds_toArray, List.set_cons_succ, List.set_cons_zero]; try rfl)))
      refine Chain.call' (a' := ?_) _ rfl rfl rfl rfl (fun wx hw hF => ?_) ?_ ?_
      rotate_left 1
      focus
        obtain ⟨g0, g1⟩ := HY.out _ (below_trans hb hw)
        go_simp; first | exact ⟨rfl, Below.refl _ _⟩ | exact Below.refl _ _
      focus (simp only [Act.put, List.setIfInBounds_toArray, List.set_cons_succ, List.set_cons_zero]; try rfl)
      repeat (first
        | (refine Chain.step (v := ?_) (a' := ?_) rfl rfl rfl ?_ ?_ ?_
           rotate_left 2
           focus (intro w; go_simp; try with_reducible rfl)
           focus (simp only [Act.put, List.setIfInBounds_toArray, List.set_cons_succ, List.set_cons_zero]; try rfl))
        | (refine Chain.skip (a' := ?_) rfl rfl rfl ?_ ?_
           rotate_left 1
           focus (simp only [Act.put, List.setIfInBounds_toArray, List.set_cons_succ, List.set_cons_zero]; try rfl)))
      refine Chain.call' (a' := ?_) _ rfl rfl rfl rfl (fun wx hw hF => ?_) ?_ ?_
      rotate_left 1
      focus
        go_simp; (with_reducible refine (HC.out _ (below_trans hb hw)).mono ?_); exact (fun e w' ⟨h1, h2⟩ => by subst h1; exact ⟨rfl, h2⟩)
      focus (simp only [Act.put, List.setIfInBounds_toArray, List.set_cons_succ, List.set_cons_zero]; try rfl)
      repeat (first
        | (refine Chain.step (v := ?_) (a' := ?_) rfl rfl rfl ?_ ?_ ?_
           rotate_left 2
           focus (intro w; go_simp; try with_reducible rfl)
           focus (simp only [Act.put, List.setIfInBounds_toArray, List.set_cons_succ, List.set_cons_zero]; try rfl))
        | (refine Chain.skip (a' := ?_) rfl rfl rfl ?_ ?_
           rotate_left 1
           focus (simp only [Act.put, List.setIfInBounds_toArray, List.set_cons_succ, List.set_cons_zero]; try rfl)))
      refine Chain.call' (a' := ?_) _ rfl rfl rfl rfl (fun wx hw hF => ?_) ?_ ?_
      rotate_left 1
      focus
        obtain ⟨g0, g1⟩ := HX.out _ (below_trans hb hw)
        go_simp; first | exact ⟨rfl, Below.refl _ _⟩ | exact Below.refl _ _
      focus (simp only [Act.put, List.setIfInBounds_toArray, List.set_cons_succ, List.set_cons_zero]; try rfl)
      repeat (first
        | (refine Chain.step (v := ?_) (a' := ?_) rfl rfl rfl ?_ ?_ ?_
           rotate_left 2
           focus (intro w; go_simp; try with_reducible rfl)
           focus (simp only [Act.put, List.setIfInBounds_toArray, List.set_cons_succ, List.set_cons_zero]; try rfl))
        | (refine Chain.skip (a' := ?_) rfl rfl rfl ?_ ?_
           rotate_left 1
           focus (simp only [Act.put, List.setIfInBounds_toArray, List.set_cons_succ, List.set_cons_zero]; try rfl)))
      refine Chain.call' (a' := ?_) _ rfl rfl rfl rfl (fun wx hw hF => ?_) ?_ ?_
      rotate_left 1
      focus
        obtain ⟨g0, g1⟩ := HY.out _ (below_trans hb hw)
        go_simp; first | exact ⟨rfl, Below.refl _ _⟩ | exact Below.refl _ _
      focus (simp only [Act.put, List.setIfInBounds_toArray, List.set_cons_succ, List.set_cons_zero]; try rfl)
      repeat (first
        | (refine Chain.step (v := ?_) (a' := ?_) rfl rfl rfl ?_ ?_ ?_
           rotate_left 2
           focus (intro w; go_simp; try with_reducible rfl)
           focus (simp only [Act.put, List.setIfInBounds_toArray, List.set_cons_succ, List.set_cons_zero]; try rfl))
        | (refine Chain.skip (a' := ?_) rfl rfl rfl ?_ ?_
           rotate_left 1
           focus (simp only [Act.put, List.setIfInBounds_toArray, List.set_cons_succ, List.set_cons_zero]; try rfl)))
      refine Chain.end_ (fun wz hwz _ => ?_)
      have hb2 := below_trans hb hwz
      obtain ⟨g0, g1⟩ := HX.out _ hb2
      clear hb hwz
      go_wp2_with fail
      go_loopw [50] (fun i wy => ∃ j : Nat, j ≤ S.length ∧ i = .int .i64 j ∧ Below w.heap.size w wy) (fun i _ => S.length - (intOf i).toNat)
      case atStart => exact ⟨0, Nat.zero_le _, rfl, hb2⟩
      case round =>
        obtain ⟨j, hj, rfl, hb3⟩ := hrel
        clear g0 g1 hb2
        by_cases hgo2 : j < S.length
        · obtain ⟨z, hz⟩ : ∃ z, S[j]? = some z := ⟨_, List.getElem?_eq_getElem hgo2⟩
          obtain ⟨sb, so, rfl, _⟩ := HS.out.at_ hz
          obtain ⟨sb', so', rfl, _⟩ := HS'.out.at_ hz
          have HZ := Lib.hid hz
          clear hz
          go_upto_region 11 with fail
          refine wp_region_facts [(4, (isV (.slice (some ⟨sb, so, none⟩) S.length sc), noFact)), (7, (isV (.agg #[.int .i64 z.1, .int .u64 (z.2 : Nat)]), noFact)), (12, (isV (.slice (some ⟨sb', so', none⟩) S.length sc'), noFact)), (15, (isV (.agg #[.int .i64 z.1, .int .u64 (z.2 : Nat)]), noFact))] (by kernel_rfl) 72 (by kernel_rfl) rfl ?_ ?_ ?_
          · apply lookup_ne
            simp only [List.forall_mem_cons, List.not_mem_nil, false_imp_iff, implies_true, and_true]
            exact ⟨⟨_, rfl⟩, ⟨_, rfl⟩, ⟨_, rfl⟩, ⟨_, rfl⟩⟩
          · apply lookup_st
            simp only [List.forall_mem_cons, List.not_mem_nil, false_imp_iff, implies_true, and_true]
            refine ⟨?_, ?_, ?_, ?_⟩
            · exact fun _ _ _ _ _ => trivial
            · exact fun _ _ _ _ _ => trivial
            · exact fun _ _ _ _ _ => trivial
            · exact fun _ _ _ _ _ => trivial
          repeat (first
            | (refine Chain.step (v := ?_) (a' := ?_) rfl rfl rfl ?_ ?_ ?_
               rotate_left 2
               focus (intro w; go_simp; try with_reducible rfl)
               focus (simp only [Act.put, List.setIfInBounds_toArray, List.set_cons_succ, List.set_cons_zero]; try rfl))
            | (refine Chain.skip (a' := ?_) rfl rfl rfl ?_ ?_
               rotate_left 1
               focus (simp only [Act.put, List.setIfInBounds_toArray, List.set_cons_succ, List.set_cons_zero]; try rfl)))
          refine Chain.call' (a' := ?_) _ rfl rfl rfl rfl (fun wx hw hF => ?_) ?_ ?_
          rotate_left 1
          focus
            obtain ⟨g0, g1⟩ := HX.out _ (below_trans hb3 hw)
            go_simp; first | exact ⟨rfl, Below.refl _ _⟩ | exact Below.refl _ _
          focus (simp only [Act.put, List.setIfInBounds_toArray, List.set_cons_succ, List.set_cons_zero]; try rfl)
          repeat (first
            | (refine Chain.step (v := ?_) (a' := ?_) rfl rfl rfl ?_ ?_ ?_
               rotate_left 2
               focus (intro w; go_simp; try with_reducible rfl)
               focus (simp only [Act.put, List.setIfInBounds_toArray, List.set_cons_succ, List.set_cons_zero]; try rfl))
            | (refine Chain.skip (a' := ?_) rfl rfl rfl ?_ ?_
               rotate_left 1
               focus (simp only [Act.put, List.setIfInBounds_toArray, List.set_cons_succ, List.set_cons_zero]; try rfl)))
          refine Chain.call' (a' := ?_) _ rfl rfl rfl rfl (fun wx hw hF => ?_) ?_ ?_
          rotate_left 1
          focus
            obtain ⟨g0, g1⟩ := (HS.out.below (below_trans hb3 hw)).at2 HZ.out
            go_simp; first | exact ⟨rfl, Below.refl _ _⟩ | exact Below.refl _ _
          focus (simp only [Act.put, List.setIfInBounds_toArray, List.set_cons_succ, List.set_cons_zero]; try rfl)
          repeat (first
            | (refine Chain.step (v := ?_) (a' := ?_) rfl rfl rfl ?_ ?_ ?_
               rotate_left 2
               focus (intro w; go_simp; try with_reducible rfl)
               focus (simp only [Act.put, List.setIfInBounds_toArray, List.set_cons_succ, List.set_cons_zero]; try rfl))
            | (refine Chain.skip (a' := ?_) rfl rfl rfl ?_ ?_
               rotate_left 1
               focus (simp only [Act.put, List.setIfInBounds_toArray, List.set_cons_succ, List.set_cons_zero]; try rfl)))
          refine Chain.call' (a' := ?_) _ rfl rfl rfl rfl (fun wx hw hF => ?_) ?_ ?_
          rotate_left 1
          focus
            obtain ⟨g0, g1⟩ := HY.out _ (below_trans hb3 hw)
            go_simp; first | exact ⟨rfl, Below.refl _ _⟩ | exact Below.refl _ _
          focus (simp only [Act.put, List.setIfInBounds_toArray, List.set_cons_succ, List.set_cons_zero]; try rfl)
          repeat (first
            | (refine Chain.step (v := ?_) (a' := ?_) rfl rfl rfl ?_ ?_ ?_
               rotate_left 2
               focus (intro w; go_simp; try with_reducible rfl)
               focus (simp only [Act.put, List.setIfInBounds_toArray, List.set_cons_succ, List.set_cons_zero]; try rfl))
            | (refine Chain.skip (a' := ?_) rfl rfl rfl ?_ ?_
               rotate_left 1
               focus (simp only [Act.put, List.setIfInBounds_toArray, List.set_cons_succ, List.set_cons_zero]; try rfl)))
          refine Chain.call' (a' := ?_) _ rfl rfl rfl rfl (fun wx hw hF => ?_) ?_ ?_
          rotate_left 1
          focus
            obtain ⟨g0, g1⟩ := (HS'.out.below (below_trans hb3 hw)).at2 HZ.out
            go_simp; first | exact ⟨rfl, Below.refl _ _⟩ | exact Below.refl _ _
          focus (simp only [Act.put, List.setIfInBounds_toArray, List.set_cons_succ, List.set_cons_zero]; try rfl)
          repeat (first
            | (refine Chain.step (v := ?_) (a' := ?_) rfl rfl rfl ?_ ?_ ?_
               rotate_left 2
               focus (intro w; go_simp; try with_reducible rfl)
               focus (simp only [Act.put, List.setIfInBounds_toArray, List.set_cons_succ, List.set_cons_zero]; try rfl))
            | (refine Chain.skip (a' := ?_) rfl rfl rfl ?_ ?_
               rotate_left 1
               focus (simp only [Act.put, List.setIfInBounds_toArray, List.set_cons_succ, List.set_cons_zero]; try rfl)))
          refine Chain.end_ (fun wz2 hwz2 _ => ?_)
          have hb4 := below_trans hb3 hwz2
          clear hb3 hwz2
          go_wp2_with fail
          go_roundw
          case rel => exact ⟨j + 1, by omega, by go_num, hb4⟩
          case measure => simp [intOf]; omega
        · obtain rfl : j = S.length := by omega
          go_wp2_with fail
          go_roundw
          case rel => exact ⟨k + 1, by omega, by go_num, hb3⟩
          case measure => simp [intOf]; omega
    · obtain rfl : k = n := by omega
      go_wp2_with fail
      go_ret
      exact ⟨rfl, hb⟩
end Go.Proofs.YtjklcojnbcemoaaGreatDoor
