/-
  What must be there, and what may be, are answers of any ask; what is neither is none. No condition.
-/
import Derived.Test.YtjklcojnbcemoaaGreatDoorZLdgE
import Derived.Test.YtjklcojnbcemoaaGreatDoorTie
import Derived.Test.YtjklcojnbcemoaaGreatDoorCards

namespace Go.Proofs.YtjklcojnbcemoaaGreatDoor
open Go.RowKit Go.Bar Go.Bar.Leb Go.Bar.Lab Go.Bar.Xor Go.Bar.Mrg Go.ChangeShapes Go.WideShapes Go.ChangeAt

/-- the two answers are right -/
def FinA1 (wb : World) (vs : Nat → Value) (w' : World) : Prop := vs 13 = .int .i64 0 ∧ Below wb.heap.size wb w'
def FinA2 (wb : World) (vs : Nat → Value) (w' : World) : Prop := vs 8 = .int .i64 6 ∧ Below wb.heap.size wb w'
theorem pts_szp (l : List On3) : SzP (addAll [] ((l.take 12).map pt3)) 12 := by
  have h := (SzP.nil (n := 0)).addAll (ps := (l.take 12).map pt3) fun p hp => by
    obtain ⟨x, _, rfl⟩ := List.mem_map.1 hp
    exact pt3_isL x
  exact h.mono (by rw [List.length_map, List.length_take]; omega)
theorem pts_times (l : List On3) : ∀ p ∈ (l.take 12).map pt3, p.2.1 < 1000 := fun p hp => by
  obtain ⟨x, _, rfl⟩ := List.mem_map.1 hp
  exact pt3_time x

set_option maxHeartbeats 8000000 in
set_option maxRecDepth 10000 in
theorem ledgerAnswers_walk0 (v1 : Value) (l1 : List On3) (v2 : Value) (l2 : List On3) (a : Int) (_ : (Lit.int .i64 a).wf = true) (b : Int) (_ : (Lit.int .i64 b).wf = true) (v5 : Value) (x5 : On3) (W : World) (h1 : O3Arg W v1 l1) (h2 : O3Arg W v2 l2) (h5 : O1Arg W v5 x5) (_ : True) :
    Calls Tryz.prog 5 #[v1, v2, .int .i64 a, .int .i64 b, v5] W (RetBelow W (.bool true)) := by
  obtain rfl := h5
  obtain ⟨nm, tt, vv⟩ := x5
  obtain ⟨W0, hW0⟩ : ∃ W0, W0 = W.alloc (.cells #[.int .u8 (nm : Nat), .int .i64 tt, .int .u64 (vv : Nat)] 57) := ⟨_, rfl⟩
  have hb0 : Below W.heap.size W W0 := by rw [hW0]; exact below_alloc1 _ _
  have hY : Blk W0 W.heap.size 57 #[.int .u8 (nm : Nat), .int .i64 tt, .int .u64 (vv : Nat)] := by rw [hW0]; exact Blk.new _ _ _
  have HB0 := Lib.hid hb0
  have P1 := Lib.hid (fun w (hb : Below W.heap.size W w) => points_any v1 l1 w (O3At.below h1.1 hb))
  have P2 := Lib.hid (fun w (hb : Below W.heap.size W w) => points_any v2 l2 w (O3At.below h2.1 hb))
  obtain ⟨_, _, rfl, _⟩ := h1.1.shape
  obtain ⟨_, _, rfl, _⟩ := h2.1.shape
  obtain ⟨Y, hYe⟩ : ∃ Y, Y = W.heap.size := ⟨_, rfl⟩
  have HYE := Lib.hid hYe
  rw [← hYe] at hY
  have HY := Lib.hid hY
  clear h1 h2 hb0 hYe hY
  go_enter Tryz.func5, Tryz.ntmps5
  go_wp2_with fail
  rw [← HYE.out, ← hW0]
  clear hW0
  go_wp2_with fail
  refine (awake25_any _).mono ?_
  rintro e w ⟨rfl, hb⟩
  have HY1 := Lib.hid (HY.out.below hb)
  have hbw := below_trans HB0.out hb
  clear hb HY HB0
  go_upto_region 4 with fail
  obtain ⟨X, hX⟩ : ∃ X, X = w.heap.size := ⟨_, rfl⟩
  obtain ⟨w1, hw1⟩ : ∃ w1, w1 = w.alloc (.cells #[.slice none 0 0, .slice none 0 0] 35) := ⟨_, rfl⟩
  have hlg : Lg w X [] [] w1 := by rw [hw1, hX]; exact Lg.start w
  have hb1 : Below w.heap.size w w1 := by rw [hw1]; exact below_alloc1 _ _
  have HL1 := Lib.hid (hlg.base hbw)
  have HY2 := Lib.hid (HY1.out.below hb1)
  have hbw1 := below_trans hbw hb1
  rw [← hw1, ← hX]
  clear hw1 hX hlg hb1 hbw HY1
  go_wp2_with fail
  refine (P1.out _ hbw1).mono ?_
  rintro e w2 ⟨p1, u1, O1, rfl, ho1, hm1⟩
  have hb2 := ho1.1.below
  have hdn := done_any W X [] [] p1 O1 0 w2 (HL1.out.below hb2) ho1.at_ Tb.nil SzP.nil (isl_of hm1) (by
    have h := congrArg List.length hm1
    rw [List.length_map, List.length_map, List.length_take] at h
    omega)
  rw [hm1] at hdn
  obtain ⟨R, hR⟩ : ∃ R, R = addAll [] ((l1.take 12).map pt3) := ⟨_, rfl⟩
  have hrs : SzP R 12 := by rw [hR]; exact pts_szp l1
  have hrt : Tb R := by rw [hR]; exact (add_spec _ Tb.nil).1
  have hrm : ∀ L t, 1000 ≤ t → val R L t = none := by rw [hR]; exact addAll_times Tb.nil (fun _ _ _ => rfl) (pts_times l1)
  rw [show addAll (([] : List Rv).map plR) ((l1.take 12).map pt3) = R from hR.symm] at hdn
  have HDN := Lib.hid hdn
  have HRS := Lib.hid hrs
  have HRT := Lib.hid hrt
  have HRM := Lib.hid hrm
  have HY3 := Lib.hid (HY2.out.below hb2)
  obtain ⟨A1, c1, rfl, _⟩ := ho1.at_.shape
  clear hdn hrs hrt hrm hR ho1 hm1 hb2 HL1 HY2 P1
  go_wp2_with fail
  refine HDN.out.mono ?_
  rintro e w3 ⟨rfl, hk3, t3, hl3, hm3⟩
  have HL3 := Lib.hid hl3
  have HM3 := Lib.hid hm3
  have HY4 := Lib.hid (hk3.blk HY3.out (by decide))
  have HSU := Lib.hid (sure_any W X t3 [] w3 hl3 (by rw [hm3]; exact HRT.out) (by rw [hm3]; exact HRS.out.mono (by decide)))
  clear hk3 hl3 hm3 HDN HY3 hbw1
  go_wp2_with fail
  refine HSU.out.mono ?_
  rintro e w4 ⟨v4, t4, rfl, hb4, ho4, hm4⟩
  have HT4 := Lib.hid (ho4.after HL3.out.bel)
  have HM4 := Lib.hid (hm4.trans HM3.out)
  have HL4 := Lib.hid (HL3.out.below hb4)
  have HY5 := Lib.hid (HY4.out.below hb4)
  obtain ⟨A4, c4, rfl⟩ := ho4.shape
  clear hb4 ho4 hm4 HL3 HSU HY4
  go_wp2_with fail
  refine (P2.out _ HL4.out.bel).mono ?_
  rintro e w5 ⟨p2, u2, O2, rfl, ho2, hm2⟩
  have hb5 := ho2.1.below
  have htr := tried_any W X t3 p2 O2 w5 (HL4.out.below hb5) (fun w' h => ho2.pt h) (isl_of hm2) (by
    have h := congrArg List.length hm2
    rw [List.length_map, List.length_map, List.length_take] at h
    omega)
  have HTR := Lib.hid htr
  have HM2 := Lib.hid hm2
  have HT5 := Lib.hid (HT4.out.below hb5)
  have HY6 := Lib.hid (HY5.out.below hb5)
  obtain ⟨A2, c2, rfl, _⟩ := ho2.at_.shape
  clear htr hm2 ho2 hb5 HT4 HY5 HL4 P2
  go_wp2_with fail
  refine HTR.out.mono ?_
  rintro e w6 ⟨rfl, O6, htd, hm6⟩
  have HL6 := Lib.hid htd.lg
  have HT6 := Lib.hid (HT5.out.ke htd.ke htd.lg.bel (by decide) (by decide) (by decide))
  have HY7 := Lib.hid (htd.ke.blk HY6.out (by decide))
  have HM6 := Lib.hid (hm6.trans HM2.out)
  clear htd hm6 HTR HT5 HY6 HM2
  go_upto_region 10 with fail
  obtain ⟨Z, hZ⟩ : ∃ Z, Z = w6.heap.size := ⟨_, rfl⟩
  obtain ⟨wb, hwb⟩ : ∃ wb, wb = w6.alloc (.cells #[.int .i64 a, .int .i64 b, .slice none 0 0] 60) := ⟨_, rfl⟩
  have hb7 : Below w6.heap.size w6 wb := by rw [hwb]; exact below_alloc1 _ _
  have HZ : Hid (Blk wb Z 60 #[.int .i64 a, .int .i64 b, .slice none 0 0]) := Lib.hid (by rw [hwb, hZ]; exact Blk.new _ _ _)
  have HL7 := Lib.hid (HL6.out.below hb7)
  have HT7 := Lib.hid ((HT6.out.below hb7).tb)
  have HY8 := Lib.hid (HY7.out.below hb7)
  rw [← hwb, ← hZ]
  have HI6 := Lib.hid (isl_of HM6.out)
  have HN6 := Lib.hid (show 12 + O6.length ≤ 100 by
    have h := congrArg List.length HM6.out
    rw [List.length_map, List.length_map, List.length_take] at h
    omega)
  have HTB := Lib.hid (show Tb (t3.map plR) by rw [HM3.out]; exact HRT.out)
  have HSZ := Lib.hid (show SzP (t3.map plR) 12 by rw [HM3.out]; exact HRS.out)
  have HSM := Lib.hid (show SzP (addAll R (O6.map plP)) 100 by
    have h1 := HRS.out.addAll (ps := O6.map plP) fun q hq => by
      obtain ⟨y, hy, rfl⟩ := List.mem_map.1 hq
      exact HI6.out y hy
    rw [List.length_map] at h1
    exact h1.mono HN6.out)
  have HAN := Lib.hid (fun wx (got : List Rv) (gv : Value) (hw : Below wb.heap.size wb wx) (hg : TbAt wx gv got) (hz : answersP R (O6.map plP) R (got.map plR) a b = 0) (hl : got.length ≤ 1000000) => answers_any W X t3 O6 12 a b (.slice A4 t4.length c4) gv t4 got wx (HL7.out.below hw) HTB.out HSZ.out HI6.out HN6.out (HT7.out.below hw) (by rw [HM4.out]; exact HRS.out.mono (by decide)) hg hl 0 (by rw [HM3.out, HM4.out]; exact hz.symm))
  clear hwb hZ hb7 HL6 HT6 HY7
  have hstT : ∀ k v w w', Below w.heap.size w w' → Dv.factOf ([(0, ((fun v => v = (.agg #[.int .i64 a, .int .i64 b, .slice none 0 0])), noFact, 0)), (2, ((fun v => v = (.agg #[.int .i64 a, .int .i64 b, .slice none 0 0])), noFact, 2)), (4, ((fun v => ∃ A m c, v = .slice A m c), (fun v w' => ∃ t', TbAt w' v t' ∧ t'.map plR = betw R a b), 13)), (5, ((fun v => v = (.int .i64 0)), noFact, 5)), (8, ((fun v => v = (.agg #[.int .i64 a, .int .i64 b, .slice none 0 0])), noFact, 8)), (10, ((fun v => v = (.agg #[.int .i64 a, .int .i64 b, .slice none 0 0])), noFact, 10)), (11, ((fun v => ∃ A m c, v = .slice A m c), (fun v w' => ∃ t', TbAt w' v t' ∧ t'.map plR = addAll R (O6.map plP)), 13)), (12, ((fun v => ∃ A m c, v = .slice A m c), (fun v w' => ∃ t', TbAt w' v t' ∧ t'.map plR = betw (addAll R (O6.map plP)) a b), 13)), (13, ((fun v => v = .int .i64 0), noFact, 13))] : List (Nat × Dv.Kp)) k v w → Dv.factOf ([(0, ((fun v => v = (.agg #[.int .i64 a, .int .i64 b, .slice none 0 0])), noFact, 0)), (2, ((fun v => v = (.agg #[.int .i64 a, .int .i64 b, .slice none 0 0])), noFact, 2)), (4, ((fun v => ∃ A m c, v = .slice A m c), (fun v w' => ∃ t', TbAt w' v t' ∧ t'.map plR = betw R a b), 13)), (5, ((fun v => v = (.int .i64 0)), noFact, 5)), (8, ((fun v => v = (.agg #[.int .i64 a, .int .i64 b, .slice none 0 0])), noFact, 8)), (10, ((fun v => v = (.agg #[.int .i64 a, .int .i64 b, .slice none 0 0])), noFact, 10)), (11, ((fun v => ∃ A m c, v = .slice A m c), (fun v w' => ∃ t', TbAt w' v t' ∧ t'.map plR = addAll R (O6.map plP)), 13)), (12, ((fun v => ∃ A m c, v = .slice A m c), (fun v w' => ∃ t', TbAt w' v t' ∧ t'.map plR = betw (addAll R (O6.map plP)) a b), 13)), (13, ((fun v => v = .int .i64 0), noFact, 13))] : List (Nat × Dv.Kp)) k v w' := Dv.fact_st (by
    simp only [List.forall_mem_cons, List.not_mem_nil, false_imp_iff, implies_true, and_true]
    refine ⟨?_, ?_, ?_, ?_, ?_, ?_, ?_, ?_, ?_⟩
    · exact fun _ _ _ _ _ => trivial
    · exact fun _ _ _ _ _ => trivial
    · exact fun _ _ _ hb h => by obtain ⟨t', h1, h2⟩ := h; exact ⟨t', h1.below hb, h2⟩
    · exact fun _ _ _ _ _ => trivial
    · exact fun _ _ _ _ _ => trivial
    · exact fun _ _ _ _ _ => trivial
    · exact fun _ _ _ hb h => by obtain ⟨t', h1, h2⟩ := h; exact ⟨t', h1.below hb, h2⟩
    · exact fun _ _ _ hb h => by obtain ⟨t', h1, h2⟩ := h; exact ⟨t', h1.below hb, h2⟩
    · exact fun _ _ _ _ _ => trivial)
  have htrT : ∀ x ∈ ([(0, ((fun v => v = (.agg #[.int .i64 a, .int .i64 b, .slice none 0 0])), noFact, 0)), (2, ((fun v => v = (.agg #[.int .i64 a, .int .i64 b, .slice none 0 0])), noFact, 2)), (4, ((fun v => ∃ A m c, v = .slice A m c), (fun v w' => ∃ t', TbAt w' v t' ∧ t'.map plR = betw R a b), 13)), (5, ((fun v => v = (.int .i64 0)), noFact, 5)), (8, ((fun v => v = (.agg #[.int .i64 a, .int .i64 b, .slice none 0 0])), noFact, 8)), (10, ((fun v => v = (.agg #[.int .i64 a, .int .i64 b, .slice none 0 0])), noFact, 10)), (11, ((fun v => ∃ A m c, v = .slice A m c), (fun v w' => ∃ t', TbAt w' v t' ∧ t'.map plR = addAll R (O6.map plP)), 13)), (12, ((fun v => ∃ A m c, v = .slice A m c), (fun v w' => ∃ t', TbAt w' v t' ∧ t'.map plR = betw (addAll R (O6.map plP)) a b), 13)), (13, ((fun v => v = .int .i64 0), noFact, 13))] : List (Nat × Dv.Kp)), (([(0, ((fun v => v = (.agg #[.int .i64 a, .int .i64 b, .slice none 0 0])), noFact, 0)), (2, ((fun v => v = (.agg #[.int .i64 a, .int .i64 b, .slice none 0 0])), noFact, 2)), (4, ((fun v => ∃ A m c, v = .slice A m c), (fun v w' => ∃ t', TbAt w' v t' ∧ t'.map plR = betw R a b), 13)), (5, ((fun v => v = (.int .i64 0)), noFact, 5)), (8, ((fun v => v = (.agg #[.int .i64 a, .int .i64 b, .slice none 0 0])), noFact, 8)), (10, ((fun v => v = (.agg #[.int .i64 a, .int .i64 b, .slice none 0 0])), noFact, 10)), (11, ((fun v => ∃ A m c, v = .slice A m c), (fun v w' => ∃ t', TbAt w' v t' ∧ t'.map plR = addAll R (O6.map plP)), 13)), (12, ((fun v => ∃ A m c, v = .slice A m c), (fun v w' => ∃ t', TbAt w' v t' ∧ t'.map plR = betw (addAll R (O6.map plP)) a b), 13)), (13, ((fun v => v = .int .i64 0), noFact, 13))] : List (Nat × Dv.Kp)).lookup x.2.2.2).isSome = true := by
    simp only [List.forall_mem_cons, List.not_mem_nil, false_imp_iff, implies_true, and_true]
    exact ⟨by kernel_rfl, by kernel_rfl, by kernel_rfl, by kernel_rfl, by kernel_rfl, by kernel_rfl, by kernel_rfl, by kernel_rfl, by kernel_rfl⟩
  refine Dv.wp_region_two (L := ([(0, ((fun v => v = (.agg #[.int .i64 a, .int .i64 b, .slice none 0 0])), noFact, 0)), (2, ((fun v => v = (.agg #[.int .i64 a, .int .i64 b, .slice none 0 0])), noFact, 2)), (4, ((fun v => ∃ A m c, v = .slice A m c), (fun v w' => ∃ t', TbAt w' v t' ∧ t'.map plR = betw R a b), 13)), (5, ((fun v => v = (.int .i64 0)), noFact, 5)), (8, ((fun v => v = (.agg #[.int .i64 a, .int .i64 b, .slice none 0 0])), noFact, 8)), (10, ((fun v => v = (.agg #[.int .i64 a, .int .i64 b, .slice none 0 0])), noFact, 10)), (11, ((fun v => ∃ A m c, v = .slice A m c), (fun v w' => ∃ t', TbAt w' v t' ∧ t'.map plR = addAll R (O6.map plP)), 13)), (12, ((fun v => ∃ A m c, v = .slice A m c), (fun v w' => ∃ t', TbAt w' v t' ∧ t'.map plR = betw (addAll R (O6.map plP)) a b), 13)), (13, ((fun v => v = .int .i64 0), noFact, 13))] : List (Nat × Dv.Kp))) (m := 13) (Fin := (FinA1 wb)) (by kernel_rfl) 70 (by kernel_rfl) rfl (by kernel_rfl) ?_ ?_ ?_
  · simp only [List.forall_mem_cons, List.not_mem_nil, false_imp_iff, implies_true, and_true]
    exact ⟨⟨_, rfl⟩, ⟨_, rfl⟩, ⟨_, none, 0, 0, rfl⟩, ⟨_, rfl⟩, ⟨_, rfl⟩, ⟨_, rfl⟩, ⟨_, none, 0, 0, rfl⟩, ⟨_, none, 0, 0, rfl⟩, ⟨_, rfl⟩⟩
  · exact (fun vs vs' w' h hf => by unfold FinA1 at hf ⊢; rw [← h 13 (by kernel_rfl) (by decide)]; exact hf)
  repeat (first
    | (refine Dv.Chain.step (v := ?_) (a' := ?_) rfl rfl rfl ?_ ?_ ?_
       rotate_left 2
       focus (intro w; go_simp; try with_reducible rfl)
       focus (simp only [Act.put, List.setIfInBounds_toArray, List.set_cons_succ, List.set_cons_zero]; try rfl))
    | (refine Dv.Chain.skip' (a' := ?_) rfl rfl rfl ?_ ?_
       rotate_left 1
       focus (simp only [Act.put, List.setIfInBounds_toArray, List.set_cons_succ, List.set_cons_zero]; try rfl)))
  refine Dv.XT.call (a' := ?_) _ _ rfl (by decide) hstT rfl rfl (fun wx hw hF => ?_) htrT ?_ ?_
  rotate_left 1
  focus
    obtain ⟨g0, g1, g2⟩ := Blk.c3 (HZ.out.below hw); go_simp; first | exact ⟨rfl, Below.refl _ _⟩ | exact Below.refl _ _
  focus (simp only [Act.put, List.setIfInBounds_toArray, List.set_cons_succ, List.set_cons_zero]; try rfl)
  repeat (first
    | (refine Dv.Chain.step (v := ?_) (a' := ?_) rfl rfl rfl ?_ ?_ ?_
       rotate_left 2
       focus (intro w; go_simp; try with_reducible rfl)
       focus (simp only [Act.put, List.setIfInBounds_toArray, List.set_cons_succ, List.set_cons_zero]; try rfl))
    | (refine Dv.Chain.skip' (a' := ?_) rfl rfl rfl ?_ ?_
       rotate_left 1
       focus (simp only [Act.put, List.setIfInBounds_toArray, List.set_cons_succ, List.set_cons_zero]; try rfl)))
  refine Dv.XT.call (a' := ?_) _ _ rfl (by decide) hstT rfl rfl (fun wx hw hF => ?_) htrT ?_ ?_
  rotate_left 1
  focus
    obtain ⟨g0, g1, g2⟩ := Blk.c3 (HZ.out.below hw); go_simp; first | exact ⟨rfl, Below.refl _ _⟩ | exact Below.refl _ _
  focus (simp only [Act.put, List.setIfInBounds_toArray, List.set_cons_succ, List.set_cons_zero]; try rfl)
  repeat (first
    | (refine Dv.Chain.step (v := ?_) (a' := ?_) rfl rfl rfl ?_ ?_ ?_
       rotate_left 2
       focus (intro w; go_simp; try with_reducible rfl)
       focus (simp only [Act.put, List.setIfInBounds_toArray, List.set_cons_succ, List.set_cons_zero]; try rfl))
    | (refine Dv.Chain.skip' (a' := ?_) rfl rfl rfl ?_ ?_
       rotate_left 1
       focus (simp only [Act.put, List.setIfInBounds_toArray, List.set_cons_succ, List.set_cons_zero]; try rfl)))
  refine Dv.XT.make _ _ _ rfl (by decide) hstT rfl rfl (fun wx hw hF => ?_) htrT (fun v4 hv4 a' ha => ?_)
  focus
    go_simp
    with_reducible refine (of_any a b _ t4 R wx (HT7.out.below hw) HM4.out (by have := HRS.out.mono (show 12 ≤ 100 by decide); rw [← HM4.out] at this; exact this.szd)).mono ?_
    rintro e w' ⟨v, t2, rfl, hb, ho, hmm⟩
    obtain ⟨A, c, rfl, _⟩ := ho.shape
    exact ⟨⟨_, _, _, rfl⟩, hb, t2, ho, hmm⟩
  obtain ⟨A7, m7, c7, rfl⟩ := hv4
  simp only [Act.put, List.setIfInBounds_toArray, List.set_cons_succ, List.set_cons_zero] at ha
  subst ha
  repeat (first
    | (refine Dv.Chain.step (v := ?_) (a' := ?_) rfl rfl rfl ?_ ?_ ?_
       rotate_left 2
       focus (intro w; go_simp; try with_reducible rfl)
       focus (simp only [Act.put, List.setIfInBounds_toArray, List.set_cons_succ, List.set_cons_zero]; try rfl))
    | (refine Dv.Chain.skip' (a' := ?_) rfl rfl rfl ?_ ?_
       rotate_left 1
       focus (simp only [Act.put, List.setIfInBounds_toArray, List.set_cons_succ, List.set_cons_zero]; try rfl)))
  refine Dv.XT.call (a' := ?_) _ _ rfl (by decide) hstT rfl rfl (fun wx hw hF => ?_) htrT ?_ ?_
  rotate_left 1
  focus
    have f4 : (fun v w' => ∃ t', TbAt w' v t' ∧ t'.map plR = betw R a b : Value → World → Prop) _ wx := hF 4 _ (by kernel_rfl) rfl (by kernel_rfl)
    obtain ⟨t', g1, g2⟩ := f4
    have hl4 := (betw_szp a b HRS.out).1
    rw [← g2, List.length_map] at hl4
    go_simp
    with_reducible refine (HAN.out wx t' _ hw g1 (by rw [g2]; exact answers_low a b HRT.out) (by omega)).mono ?_
    rintro e w' ⟨rfl, hb⟩
    first | exact ⟨rfl, hb⟩ | exact hb
  focus (simp only [Act.put, List.setIfInBounds_toArray, List.set_cons_succ, List.set_cons_zero]; try rfl)
  repeat (first
    | (refine Dv.Chain.step (v := ?_) (a' := ?_) rfl rfl rfl ?_ ?_ ?_
       rotate_left 2
       focus (intro w; go_simp; try with_reducible rfl)
       focus (simp only [Act.put, List.setIfInBounds_toArray, List.set_cons_succ, List.set_cons_zero]; try rfl))
    | (refine Dv.Chain.skip' (a' := ?_) rfl rfl rfl ?_ ?_
       rotate_left 1
       focus (simp only [Act.put, List.setIfInBounds_toArray, List.set_cons_succ, List.set_cons_zero]; try rfl)))
  refine Dv.XT.call (a' := ?_) _ _ rfl (by decide) hstT rfl rfl (fun wx hw hF => ?_) htrT ?_ ?_
  rotate_left 1
  focus
    obtain ⟨g0, g1, g2⟩ := Blk.c3 (HZ.out.below hw); go_simp; first | exact ⟨rfl, Below.refl _ _⟩ | exact Below.refl _ _
  focus (simp only [Act.put, List.setIfInBounds_toArray, List.set_cons_succ, List.set_cons_zero]; try rfl)
  repeat (first
    | (refine Dv.Chain.step (v := ?_) (a' := ?_) rfl rfl rfl ?_ ?_ ?_
       rotate_left 2
       focus (intro w; go_simp; try with_reducible rfl)
       focus (simp only [Act.put, List.setIfInBounds_toArray, List.set_cons_succ, List.set_cons_zero]; try rfl))
    | (refine Dv.Chain.skip' (a' := ?_) rfl rfl rfl ?_ ?_
       rotate_left 1
       focus (simp only [Act.put, List.setIfInBounds_toArray, List.set_cons_succ, List.set_cons_zero]; try rfl)))
  refine Dv.XT.call (a' := ?_) _ _ rfl (by decide) hstT rfl rfl (fun wx hw hF => ?_) htrT ?_ ?_
  rotate_left 1
  focus
    obtain ⟨g0, g1, g2⟩ := Blk.c3 (HZ.out.below hw); go_simp; first | exact ⟨rfl, Below.refl _ _⟩ | exact Below.refl _ _
  focus (simp only [Act.put, List.setIfInBounds_toArray, List.set_cons_succ, List.set_cons_zero]; try rfl)
  repeat (first
    | (refine Dv.Chain.step (v := ?_) (a' := ?_) rfl rfl rfl ?_ ?_ ?_
       rotate_left 2
       focus (intro w; go_simp; try with_reducible rfl)
       focus (simp only [Act.put, List.setIfInBounds_toArray, List.set_cons_succ, List.set_cons_zero]; try rfl))
    | (refine Dv.Chain.skip' (a' := ?_) rfl rfl rfl ?_ ?_
       rotate_left 1
       focus (simp only [Act.put, List.setIfInBounds_toArray, List.set_cons_succ, List.set_cons_zero]; try rfl)))
  refine Dv.XT.make _ _ _ rfl (by decide) hstT rfl rfl (fun wx hw hF => ?_) htrT (fun v11 hv11 a' ha => ?_)
  focus
    go_simp
    with_reducible refine (may_any W X t3 O6 12 wx (HL7.out.below hw) HTB.out HSZ.out HI6.out HN6.out).mono ?_
    rintro e w' ⟨v, t', rfl, hb, ho, hmm⟩
    obtain ⟨A, c, rfl⟩ := ho.shape
    exact ⟨⟨_, _, _, rfl⟩, hb, t', ho.tb, by rw [hmm, HM3.out]⟩
  obtain ⟨A8, m8, c8, rfl⟩ := hv11
  simp only [Act.put, List.setIfInBounds_toArray, List.set_cons_succ, List.set_cons_zero] at ha
  subst ha
  repeat (first
    | (refine Dv.Chain.step (v := ?_) (a' := ?_) rfl rfl rfl ?_ ?_ ?_
       rotate_left 2
       focus (intro w; go_simp; try with_reducible rfl)
       focus (simp only [Act.put, List.setIfInBounds_toArray, List.set_cons_succ, List.set_cons_zero]; try rfl))
    | (refine Dv.Chain.skip' (a' := ?_) rfl rfl rfl ?_ ?_
       rotate_left 1
       focus (simp only [Act.put, List.setIfInBounds_toArray, List.set_cons_succ, List.set_cons_zero]; try rfl)))
  refine Dv.XT.make _ _ _ rfl (by decide) hstT rfl rfl (fun wx hw hF => ?_) htrT (fun v12 hv12 a' ha => ?_)
  focus
    have f11 : (fun v w' => ∃ t', TbAt w' v t' ∧ t'.map plR = addAll R (O6.map plP) : Value → World → Prop) _ wx := hF 11 _ (by kernel_rfl) rfl (by kernel_rfl)
    obtain ⟨t', g1, g2⟩ := f11
    go_simp
    with_reducible refine (of_any a b _ t' _ wx g1 g2 (by have := HSM.out; rw [← g2] at this; exact this.szd)).mono ?_
    rintro e w' ⟨v, t2, rfl, hb, ho, hmm⟩
    obtain ⟨A, c, rfl, _⟩ := ho.shape
    exact ⟨⟨_, _, _, rfl⟩, hb, t2, ho, hmm⟩
  obtain ⟨A9, m9, c9, rfl⟩ := hv12
  simp only [Act.put, List.setIfInBounds_toArray, List.set_cons_succ, List.set_cons_zero] at ha
  subst ha
  repeat (first
    | (refine Dv.Chain.step (v := ?_) (a' := ?_) rfl rfl rfl ?_ ?_ ?_
       rotate_left 2
       focus (intro w; go_simp; try with_reducible rfl)
       focus (simp only [Act.put, List.setIfInBounds_toArray, List.set_cons_succ, List.set_cons_zero]; try rfl))
    | (refine Dv.Chain.skip' (a' := ?_) rfl rfl rfl ?_ ?_
       rotate_left 1
       focus (simp only [Act.put, List.setIfInBounds_toArray, List.set_cons_succ, List.set_cons_zero]; try rfl)))
  refine Dv.XT.last _ _ _ rfl rfl (by kernel_rfl) rfl rfl (fun vs wx hw hF => ?_) (fun v13 hv13 a' ha => ?_)
  focus
    have f12 : (fun v w' => ∃ t', TbAt w' v t' ∧ t'.map plR = betw (addAll R (O6.map plP)) a b : Value → World → Prop) _ wx := (hF 12 _ (by kernel_rfl) rfl).1 (by kernel_rfl)
    have q12 := (hF 12 _ (by kernel_rfl) rfl).2
    obtain ⟨t', g1, g2⟩ := f12
    have hl4 := (betw_szp a b HSM.out).1
    rw [← g2, List.length_map] at hl4
    go_simp
    with_reducible refine (HAN.out wx t' _ hw g1 (by rw [g2]; exact answers_may a b HRT.out) (by omega)).mono ?_
    rintro e w' ⟨rfl, hb⟩
    have hu := Dv.updV_self vs 13 (.int .i64 0)
    first | exact ⟨rfl, hu, below_trans hw hb⟩ | exact ⟨hu, below_trans hw hb⟩
  obtain rfl := hv13
  simp only [Act.put, List.setIfInBounds_toArray, List.set_cons_succ, List.set_cons_zero] at ha
  subst ha
  repeat (first
    | (refine Dv.Chain.step (v := ?_) (a' := ?_) rfl rfl rfl ?_ ?_ ?_
       rotate_left 2
       focus (intro w; go_simp; try with_reducible rfl)
       focus (simp only [Act.put, List.setIfInBounds_toArray, List.set_cons_succ, List.set_cons_zero]; try rfl))
    | (refine Dv.Chain.skip' (a' := ?_) rfl rfl rfl ?_ ?_
       rotate_left 1
       focus (simp only [Act.put, List.setIfInBounds_toArray, List.set_cons_succ, List.set_cons_zero]; try rfl)))
  refine Dv.XT.end_ (by decide) (fun vs w10 hv hfin => ?_)
  have hb10 := hfin.2
  have HL8 := Lib.hid (HL7.out.below hb10)
  have HY9 := Lib.hid (HY8.out.below hb10)
  clear hv hfin HAN hb10 HL7 HY8 HT7 HZ
  obtain ⟨y0, y1, y2⟩ := HY9.out.c3
  go_upto_region 13 with fail
  obtain ⟨Q, hQ⟩ : ∃ Q, Q = w10.heap.size := ⟨_, rfl⟩
  obtain ⟨wb, hwb⟩ : ∃ wb, wb = w10.alloc (.cells #[.int .i64 5000, .int .u64 (vv : Nat)] 42) := ⟨_, rfl⟩
  have hb11 : Below w10.heap.size w10 wb := by rw [hwb]; exact below_alloc1 _ _
  have HQ : Hid (Blk wb Q 42 #[.int .i64 5000, .int .u64 (vv : Nat)]) := Lib.hid (by rw [hwb, hQ]; exact Blk.new _ _ _)
  have HL9 := Lib.hid (HL8.out.below hb11)
  have HYA := Lib.hid (HY9.out.below hb11)
  rw [← hwb, ← hQ]
  obtain ⟨L, hL⟩ : ∃ L, L = lab5 nm := ⟨_, rfl⟩
  have hlb := labels_any nm
  rw [← hL] at hlb
  have HLB := Lib.hid hlb
  have HMO := Lib.hid (answers_more L vv HRT.out HRM.out (P := O6.map plP) (by rw [HM6.out]; exact pts_times l2))
  clear hwb hQ hb11 HL8 HY9 y0 y1 y2 hL hlb
  have hstT : ∀ k v w w', Below w.heap.size w w' → Dv.factOf ([(2, ((fun v => v = (.int .u8 (nm : Nat))), noFact, 2)), (3, ((fun v => ∃ A c, v = .slice A L.length c), (fun v w' => PsAt w' v L), 8)), (4, ((fun v => v = (.agg #[.int .i64 5000, .int .u64 (vv : Nat)])), noFact, 4)), (5, ((fun v => ∃ g, v = .slice (some ⟨g, 0, none⟩) 1 1), (fun v w' => SmsAt w' v [(5000, vv)]), 8)), (7, ((fun v => ∃ g, v = .slice (some ⟨g, 0, none⟩) 1 1), (fun v w' => ∃ x, TbAt w' v [x] ∧ plR x = (L, [(5000, vv)])), 8)), (8, ((fun v => v = .int .i64 6), noFact, 8))] : List (Nat × Dv.Kp)) k v w → Dv.factOf ([(2, ((fun v => v = (.int .u8 (nm : Nat))), noFact, 2)), (3, ((fun v => ∃ A c, v = .slice A L.length c), (fun v w' => PsAt w' v L), 8)), (4, ((fun v => v = (.agg #[.int .i64 5000, .int .u64 (vv : Nat)])), noFact, 4)), (5, ((fun v => ∃ g, v = .slice (some ⟨g, 0, none⟩) 1 1), (fun v w' => SmsAt w' v [(5000, vv)]), 8)), (7, ((fun v => ∃ g, v = .slice (some ⟨g, 0, none⟩) 1 1), (fun v w' => ∃ x, TbAt w' v [x] ∧ plR x = (L, [(5000, vv)])), 8)), (8, ((fun v => v = .int .i64 6), noFact, 8))] : List (Nat × Dv.Kp)) k v w' := Dv.fact_st (by
    simp only [List.forall_mem_cons, List.not_mem_nil, false_imp_iff, implies_true, and_true]
    refine ⟨?_, ?_, ?_, ?_, ?_, ?_⟩
    · exact fun _ _ _ _ _ => trivial
    · exact fun _ _ _ hb h => PsAt.below h hb
    · exact fun _ _ _ _ _ => trivial
    · exact fun _ _ _ hb h => SmsAt.below h hb
    · exact fun _ _ _ hb h => by obtain ⟨x, h1, h2⟩ := h; exact ⟨x, h1.below hb, h2⟩
    · exact fun _ _ _ _ _ => trivial)
  have htrT : ∀ x ∈ ([(2, ((fun v => v = (.int .u8 (nm : Nat))), noFact, 2)), (3, ((fun v => ∃ A c, v = .slice A L.length c), (fun v w' => PsAt w' v L), 8)), (4, ((fun v => v = (.agg #[.int .i64 5000, .int .u64 (vv : Nat)])), noFact, 4)), (5, ((fun v => ∃ g, v = .slice (some ⟨g, 0, none⟩) 1 1), (fun v w' => SmsAt w' v [(5000, vv)]), 8)), (7, ((fun v => ∃ g, v = .slice (some ⟨g, 0, none⟩) 1 1), (fun v w' => ∃ x, TbAt w' v [x] ∧ plR x = (L, [(5000, vv)])), 8)), (8, ((fun v => v = .int .i64 6), noFact, 8))] : List (Nat × Dv.Kp)), (([(2, ((fun v => v = (.int .u8 (nm : Nat))), noFact, 2)), (3, ((fun v => ∃ A c, v = .slice A L.length c), (fun v w' => PsAt w' v L), 8)), (4, ((fun v => v = (.agg #[.int .i64 5000, .int .u64 (vv : Nat)])), noFact, 4)), (5, ((fun v => ∃ g, v = .slice (some ⟨g, 0, none⟩) 1 1), (fun v w' => SmsAt w' v [(5000, vv)]), 8)), (7, ((fun v => ∃ g, v = .slice (some ⟨g, 0, none⟩) 1 1), (fun v w' => ∃ x, TbAt w' v [x] ∧ plR x = (L, [(5000, vv)])), 8)), (8, ((fun v => v = .int .i64 6), noFact, 8))] : List (Nat × Dv.Kp)).lookup x.2.2.2).isSome = true := by
    simp only [List.forall_mem_cons, List.not_mem_nil, false_imp_iff, implies_true, and_true]
    exact ⟨by kernel_rfl, by kernel_rfl, by kernel_rfl, by kernel_rfl, by kernel_rfl, by kernel_rfl⟩
  refine Dv.wp_region_two (L := ([(2, ((fun v => v = (.int .u8 (nm : Nat))), noFact, 2)), (3, ((fun v => ∃ A c, v = .slice A L.length c), (fun v w' => PsAt w' v L), 8)), (4, ((fun v => v = (.agg #[.int .i64 5000, .int .u64 (vv : Nat)])), noFact, 4)), (5, ((fun v => ∃ g, v = .slice (some ⟨g, 0, none⟩) 1 1), (fun v w' => SmsAt w' v [(5000, vv)]), 8)), (7, ((fun v => ∃ g, v = .slice (some ⟨g, 0, none⟩) 1 1), (fun v w' => ∃ x, TbAt w' v [x] ∧ plR x = (L, [(5000, vv)])), 8)), (8, ((fun v => v = .int .i64 6), noFact, 8))] : List (Nat × Dv.Kp))) (m := 8) (Fin := (FinA2 wb)) (by kernel_rfl) 70 (by kernel_rfl) rfl (by kernel_rfl) ?_ ?_ ?_
  · simp only [List.forall_mem_cons, List.not_mem_nil, false_imp_iff, implies_true, and_true]
    exact ⟨⟨_, rfl⟩, ⟨_, none, 0, rfl⟩, ⟨_, rfl⟩, ⟨_, 0, rfl⟩, ⟨_, 0, rfl⟩, ⟨_, rfl⟩⟩
  · exact (fun vs vs' w' h hf => by unfold FinA2 at hf ⊢; rw [← h 8 (by kernel_rfl) (by decide)]; exact hf)
  repeat (first
    | (refine Dv.Chain.step (v := ?_) (a' := ?_) rfl rfl rfl ?_ ?_ ?_
       rotate_left 2
       focus (intro w; go_simp; try with_reducible rfl)
       focus (simp only [Act.put, List.setIfInBounds_toArray, List.set_cons_succ, List.set_cons_zero]; try rfl))
    | (refine Dv.Chain.skip' (a' := ?_) rfl rfl rfl ?_ ?_
       rotate_left 1
       focus (simp only [Act.put, List.setIfInBounds_toArray, List.set_cons_succ, List.set_cons_zero]; try rfl)))
  refine Dv.XT.call (a' := ?_) _ _ rfl (by decide) hstT rfl rfl (fun wx hw hF => ?_) htrT ?_ ?_
  rotate_left 1
  focus
    obtain ⟨g0, g1, g2⟩ := Blk.c3 (HYA.out.below hw); go_simp; first | exact ⟨rfl, Below.refl _ _⟩ | exact Below.refl _ _
  focus (simp only [Act.put, List.setIfInBounds_toArray, List.set_cons_succ, List.set_cons_zero]; try rfl)
  repeat (first
    | (refine Dv.Chain.step (v := ?_) (a' := ?_) rfl rfl rfl ?_ ?_ ?_
       rotate_left 2
       focus (intro w; go_simp; try with_reducible rfl)
       focus (simp only [Act.put, List.setIfInBounds_toArray, List.set_cons_succ, List.set_cons_zero]; try rfl))
    | (refine Dv.Chain.skip' (a' := ?_) rfl rfl rfl ?_ ?_
       rotate_left 1
       focus (simp only [Act.put, List.setIfInBounds_toArray, List.set_cons_succ, List.set_cons_zero]; try rfl)))
  refine Dv.XT.make _ _ _ rfl (by decide) hstT rfl rfl (fun wx hw hF => ?_) htrT (fun v3 hv3 a' ha => ?_)
  focus
    go_simp
    with_reducible refine (HLB.out _).mono ?_
    rintro e w' ⟨v, rfl, hnb⟩
    obtain ⟨A, c, rfl, _⟩ := hnb.buf.shape
    exact ⟨⟨A, c, rfl⟩, hnb.below, hnb.slice⟩
  obtain ⟨A3, c3, rfl⟩ := hv3
  simp only [Act.put, List.setIfInBounds_toArray, List.set_cons_succ, List.set_cons_zero] at ha
  subst ha
  repeat (first
    | (refine Dv.Chain.step (v := ?_) (a' := ?_) rfl rfl rfl ?_ ?_ ?_
       rotate_left 2
       focus (intro w; go_simp; try with_reducible rfl)
       focus (simp only [Act.put, List.setIfInBounds_toArray, List.set_cons_succ, List.set_cons_zero]; try rfl))
    | (refine Dv.Chain.skip' (a' := ?_) rfl rfl rfl ?_ ?_
       rotate_left 1
       focus (simp only [Act.put, List.setIfInBounds_toArray, List.set_cons_succ, List.set_cons_zero]; try rfl)))
  refine Dv.XT.call (a' := ?_) _ _ rfl (by decide) hstT rfl rfl (fun wx hw hF => ?_) htrT ?_ ?_
  rotate_left 1
  focus
    obtain ⟨g0, g1⟩ := Blk.c2 (HQ.out.below hw); go_simp; first | exact ⟨rfl, Below.refl _ _⟩ | exact Below.refl _ _
  focus (simp only [Act.put, List.setIfInBounds_toArray, List.set_cons_succ, List.set_cons_zero]; try rfl)
  repeat (first
    | (refine Dv.Chain.step (v := ?_) (a' := ?_) rfl rfl rfl ?_ ?_ ?_
       rotate_left 2
       focus (intro w; go_simp; try with_reducible rfl)
       focus (simp only [Act.put, List.setIfInBounds_toArray, List.set_cons_succ, List.set_cons_zero]; try rfl))
    | (refine Dv.Chain.skip' (a' := ?_) rfl rfl rfl ?_ ?_
       rotate_left 1
       focus (simp only [Act.put, List.setIfInBounds_toArray, List.set_cons_succ, List.set_cons_zero]; try rfl)))
  refine Dv.XT.make _ _ _ rfl (by decide) hstT rfl rfl (fun wx hw hF => ?_) htrT (fun v5 hv5 a' ha => ?_)
  focus
    go_simp
    exact ⟨ba1 _ _, SlAt.of_buf (Buf.lit wx 42 2 1 (smc [(5000, vv)]) rfl (by decide))⟩
  obtain ⟨g5, rfl⟩ := hv5
  simp only [Act.put, List.setIfInBounds_toArray, List.set_cons_succ, List.set_cons_zero] at ha
  subst ha
  repeat (first
    | (refine Dv.Chain.step (v := ?_) (a' := ?_) rfl rfl rfl ?_ ?_ ?_
       rotate_left 2
       focus (intro w; go_simp; try with_reducible rfl)
       focus (simp only [Act.put, List.setIfInBounds_toArray, List.set_cons_succ, List.set_cons_zero]; try rfl))
    | (refine Dv.Chain.skip' (a' := ?_) rfl rfl rfl ?_ ?_
       rotate_left 1
       focus (simp only [Act.put, List.setIfInBounds_toArray, List.set_cons_succ, List.set_cons_zero]; try rfl)))
  refine Dv.XT.make _ _ _ rfl (by decide) hstT rfl rfl (fun wx hw hF => ?_) htrT (fun v7 hv7 a' ha => ?_)
  focus
    have f3 : (fun v w' => PsAt w' v L : Value → World → Prop) _ wx := hF 3 _ (by kernel_rfl) rfl (by kernel_rfl)
    have f5 : (fun v w' => SmsAt w' v [(5000, vv)] : Value → World → Prop) _ wx := hF 5 _ (by kernel_rfl) rfl (by kernel_rfl)
    have f3 : PsAt wx (.slice A3 L.length c3) L := f3
    have f5 : SmsAt wx (.slice (some ⟨g5, 0, none⟩) 1 1) [(5000, vv)] := f5
    go_simp
    exact ⟨ba1 _ _, ⟨L, [(5000, vv)], A3, c3, some ⟨g5, 0, none⟩, 1⟩, ⟨SlAt.of_buf (Buf.lit wx 50 2 1 (rcs [⟨L, [(5000, vv)], A3, c3, some ⟨g5, 0, none⟩, 1⟩]) rfl (by decide)), fun z hz => by
      obtain rfl := List.mem_singleton.1 hz
      exact ⟨PsAt.below f3 (ba1 _ _), SmsAt.below f5 (ba1 _ _)⟩⟩, rfl⟩
  obtain ⟨g7, rfl⟩ := hv7
  simp only [Act.put, List.setIfInBounds_toArray, List.set_cons_succ, List.set_cons_zero] at ha
  subst ha
  repeat (first
    | (refine Dv.Chain.step (v := ?_) (a' := ?_) rfl rfl rfl ?_ ?_ ?_
       rotate_left 2
       focus (intro w; go_simp; try with_reducible rfl)
       focus (simp only [Act.put, List.setIfInBounds_toArray, List.set_cons_succ, List.set_cons_zero]; try rfl))
    | (refine Dv.Chain.skip' (a' := ?_) rfl rfl rfl ?_ ?_
       rotate_left 1
       focus (simp only [Act.put, List.setIfInBounds_toArray, List.set_cons_succ, List.set_cons_zero]; try rfl)))
  refine Dv.XT.last _ _ _ rfl rfl (by kernel_rfl) rfl rfl (fun vs wx hw hF => ?_) (fun v8 hv8 a' ha => ?_)
  focus
    have f7 : (fun v w' => ∃ x, TbAt w' v [x] ∧ plR x = (L, [(5000, vv)]) : Value → World → Prop) _ wx := (hF 7 _ (by kernel_rfl) rfl).1 (by kernel_rfl)
    have q7 := (hF 7 _ (by kernel_rfl) rfl).2
    obtain ⟨y, g1, g2⟩ := f7
    have han := answers_any W X t3 O6 12 0 9000 (.slice none 0 0) _ [] [y] wx (HL9.out.below hw) HTB.out HSZ.out HI6.out HN6.out (tb_nil wx) SzP.nil g1 (by simp) 6 (by rw [HM3.out]; show 6 = answersP _ _ [] [plR y] _ _; rw [g2]; exact HMO.out.symm)
    go_simp
    with_reducible refine han.mono ?_
    rintro e w' ⟨rfl, hb⟩
    have hu := Dv.updV_self vs 8 (.int .i64 6)
    first | exact ⟨rfl, hu, below_trans hw hb⟩ | exact ⟨hu, below_trans hw hb⟩
  obtain rfl := hv8
  simp only [Act.put, List.setIfInBounds_toArray, List.set_cons_succ, List.set_cons_zero] at ha
  subst ha
  repeat (first
    | (refine Dv.Chain.step (v := ?_) (a' := ?_) rfl rfl rfl ?_ ?_ ?_
       rotate_left 2
       focus (intro w; go_simp; try with_reducible rfl)
       focus (simp only [Act.put, List.setIfInBounds_toArray, List.set_cons_succ, List.set_cons_zero]; try rfl))
    | (refine Dv.Chain.skip' (a' := ?_) rfl rfl rfl ?_ ?_
       rotate_left 1
       focus (simp only [Act.put, List.setIfInBounds_toArray, List.set_cons_succ, List.set_cons_zero]; try rfl)))
  refine Dv.XT.end_ (by decide) (fun vs w12 hv hfin => ?_)
  have hb12 := hfin.2
  have HB := Lib.hid (below_trans HL9.out.bel hb12)
  clear hv hfin hb12
  go_wp2_with fail
  go_ret
  exact ⟨rfl, HB.out⟩
set_option maxHeartbeats 8000000 in
set_option maxRecDepth 100000 in
theorem ledgerAnswers_lifted (os : Os) (started : os.Started) (H : Type) (enc : TypeId × Value → H) :
    ReturnsInHanded {} Tryz.checked os 5 .any (fun w args => (Rows.ledgerAnswersSpec.pre enc Tryz.prog Tryz.f5 [] false w args ∧ laidMetH Tryz.prog [("unicode/utf8.acceptRanges", Rows.laid_unicode_utf8_acceptRanges), ("unicode/utf8.first", Rows.laid_unicode_utf8_first)] w) ∧ sizedMet enc Tryz.prog Tryz.f5 (OpenSpec.ofChange Rows.ledgerAnswersSpec) false w args)
      (Rows.ledgerAnswersSpec.post enc Tryz.prog Tryz.f5 false true false false) := by
  refine returnsInHanded_of_change_and (C := Tryz.checked) (X := fun w _ => laidMetH Tryz.prog [("unicode/utf8.acceptRanges", Rows.laid_unicode_utf8_acceptRanges), ("unicode/utf8.first", Rows.laid_unicode_utf8_first)] w) (fun _ _ _ hh h => h.of_heap hh) law_own started (by kernel_rfl) Tryz.func5
    (ChangeSpec.witness_shaped (enc := enc) (C := Tryz.checked) (os := os) (X := fun w _ => laidMetH Tryz.prog [("unicode/utf8.acceptRanges", Rows.laid_unicode_utf8_acceptRanges), ("unicode/utf8.first", Rows.laid_unicode_utf8_first)] w) false (World.laidAll Tryz.prog os [("unicode/utf8.acceptRanges", Rows.laid_unicode_utf8_acceptRanges), ("unicode/utf8.first", Rows.laid_unicode_utf8_first)]) #[.slice none 0 0, .slice none 0 0, .int .i64 0, .int .i64 0, .agg #[.int .u8 0, .int .i64 0, .int .u64 0]] 8 (World.laidAll_os _ _ _)
      (World.shaped_of_ZipB (by kernel_rfl) (by kernel_rfl)) (by kernel_rfl) (by kernel_rfl) (by kernel_rfl) (door_met os _)) ?_
  intro W base args ds gs before hval0 hW _ _ hL _
  have hval : ∀ (j : Nat) t v, Tryz.f5.params[j]? = some t → args[j]? = some v → Value.okWide Tryz.prog W .any base t v := hval0
  have hW' := hW
  obtain ⟨p, q, hA0, hV, rfl, _, _⟩ := hW
  have hA : DataW.TrodAll enc Tryz.prog W 0 (fun _ => true) true Tryz.f5.params.toList args.toList ds p := hA0
  rw [Tryz.params5] at hA hval
  obtain ⟨v0, vs0, d0, ds0, p0, q0, hargs, rfl, rfl, h0, r0⟩ := trodAll_cons hA
  obtain ⟨v1, vs1, d1, ds1, p1, q1, rfl, rfl, rfl, h1, r1⟩ := trodAll_cons r0
  obtain ⟨v2, vs2, d2, ds2, p2, q2, rfl, rfl, rfl, h2, r2⟩ := trodAll_cons r1
  obtain ⟨v3, vs3, d3, ds3, p3, q3, rfl, rfl, rfl, h3, r3⟩ := trodAll_cons r2
  obtain ⟨v4, vs4, d4, ds4, p4, q4, rfl, rfl, rfl, h4, r4⟩ := trodAll_cons r3
  obtain ⟨rfl, rfl, rfl⟩ := trodAll_nil r4
  obtain rfl : args = #[v0, v1, v2, v3, v4] := by cases args; simp_all
  obtain ⟨rfl, rfl⟩ := trodVars_none hV
  obtain ⟨a2, rfl, rfl, rfl, w2⟩ := open_int Tryz.underlying2 (hval 2 2 v2 rfl rfl) h2
  obtain ⟨a3, rfl, rfl, rfl, w3⟩ := open_int Tryz.underlying2 (hval 3 2 v3 rfl rfl) h3
  obtain ⟨ts0, hts0⟩ := open_arg14 (hval 0 22 v0 rfl rfl) h0
  obtain ⟨ts1, hts1⟩ := open_arg14 (hval 1 22 v1 rfl rfl) h1
  obtain ⟨ts4, hts4⟩ := open_one14 (hval 4 57 v4 rfl rfl) h4
  refine (ledgerAnswers_walk0 v0 ts0 v1 ts1 a2 w2 a3 w3 v4 ts4 W hts0 hts1 hts4 (of_laid hL)).mono fun e W' ⟨he, hb⟩ => ?_
  subst he
  exact ⟨_, rfl, law_post law_laid (by intro t ht; rw [Tryz.params5] at ht; simp only [List.mem_cons, List.not_mem_nil, or_false] at ht; rcases ht with rfl | rfl | rfl | rfl | rfl <;> exact ⟨by kernel_rfl, of_decide_eq_true (by kernel_rfl)⟩) rfl Tryz.underlying4 rfl rfl hW' hb⟩

theorem ledgerAnswers_holds : Rows.LedgerAnswersSaid :=
  OpenClaim.holds_of_wide 5 Tryz.f5 rfl rfl rfl rfl rfl rfl rfl ⟨rfl, rfl, rfl, rfl, rfl⟩ rfl rfl rfl rfl rfl (by kernel_rfl) Tryz.func5 (by kernel_rfl)
    (of_decide_eq_true (by kernel_rfl)) (by unfold Func.isWrapper; first | (rw [if_pos (by decide +kernel)]; kernel_rfl) | (rw [if_neg (by decide +kernel)]; exact ⟨rfl, rfl⟩))
    (fun os started H enc _ => ledgerAnswers_lifted os started H enc)

theorem ledgerAnswers_card : Rows.LedgerAnswersCardSaid :=
  Claim7.holds_tied_plain_at .later [] [.data, .pinned] true (true, "ae9c0f3564916a8dc06049776155b9824e3dd5d61280ffbab269dfcf7e900a45") true
    ledgerAnswers_holds (fun _ h => by cases h) (by kernel_rfl) (fun _ h => by cases h) ledgerAnswers_row_tie rfl ⟨rfl, rfl⟩ (by kernel_rfl) rfl
    (fun f fn hf hfn => by
      obtain rfl : f = 5 := Option.some.inj ((show Tryz.prog.funcNamed "barograph/barographlaw25.LedgerAnswers" = some 5 by kernel_rfl).symm.trans hf) |>.symm
      obtain rfl : fn = Tryz.f5 := (Option.some.inj (Tryz.func5.symm.trans hfn)).symm
      exact ⟨by kernel_rfl, fun j t ht => by
        rw [Tryz.params5] at ht
        rcases j with _ | j
        · obtain rfl : t = 22 := by simpa using ht.symm
          exact (show Tryz.prog.wantsStandIn 22 = false by kernel_rfl)
        rcases j with _ | j
        · obtain rfl : t = 22 := by simpa using ht.symm
          exact (show Tryz.prog.wantsStandIn 22 = false by kernel_rfl)
        rcases j with _ | j
        · obtain rfl : t = 2 := by simpa using ht.symm
          exact (show Tryz.prog.wantsStandIn 2 = false by kernel_rfl)
        rcases j with _ | j
        · obtain rfl : t = 2 := by simpa using ht.symm
          exact (show Tryz.prog.wantsStandIn 2 = false by kernel_rfl)
        rcases j with _ | j
        · obtain rfl : t = 57 := by simpa using ht.symm
          exact (show Tryz.prog.wantsStandIn 57 = false by kernel_rfl)
        simp at ht⟩)
    (by kernel_rfl)

end Go.Proofs.YtjklcojnbcemoaaGreatDoor
