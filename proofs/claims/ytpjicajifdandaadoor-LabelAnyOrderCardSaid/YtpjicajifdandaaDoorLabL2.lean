/-
  Label: pairs in any order make the same set. No condition.
-/
import Derived.Test.YtpjicajifdandaaDoorLabL
import Derived.Test.YtpjicajifdandaaDoorTie
import Derived.Test.YtpjicajifdandaaDoorCards
import Derived.Test.YtpjicajifdandaaDoorLib12
import Derived.Test.YtpjicajifdandaaDoorLib16
namespace Go.Proofs.YtpjicajifdandaaDoor
open Go.RowKit Go.Bar Go.Bar.Leb Go.Bar.Lab Go.ChangeShapes Go.WideShapes Go.ChangeAt

theorem pcs_take (l : List Pr) (k : Nat) : (pcs l).take (k * 2) = pcs (l.take k) := flat2_take _ _ l k

theorem pcs_drop (l : List Pr) (k : Nat) : (pcs l).drop (k * 2) = pcs (l.drop k) := by
  have h : pcs l = pcs (l.take k) ++ pcs (l.drop k) := by rw [← pcs_append, List.take_append_drop]
  by_cases hk : k ≤ l.length
  · rw [h, List.drop_append_of_le_length (by rw [pcs_length, List.length_take]; omega), List.drop_of_length_le (by rw [pcs_length, List.length_take]; omega), List.nil_append]
  · rw [List.drop_of_length_le (by rw [pcs_length]; omega), List.drop_of_length_le (by omega)]; rfl

/-- what Make leaves, of pairs whose names are unlike -/
theorem makeU_any (v : Value) (l : List Pr) (w : World) (h : PsAt w v l) (hl : l.length ≤ 1000000) (hp : ∀ p ∈ l, p.1.length ≤ 1000000000000) (hu : Unlike l) :
    Calls Tryd.prog 11 #[v] w fun e w' => ∃ v', e = .returned (.tuple #[v', .int .i64 (errL (sorted l))]) ∧ NBuf w w' 57 2 v' (sorted l).length (pcs (sorted l)) :=
  (make_any v l w h hl hp).mono fun _ _ ⟨v', m, h1, h2, h3, h4⟩ => by
    obtain rfl := sorted_of h2 h3 hu
    exact ⟨v', h1, h4⟩

set_option maxHeartbeats 4000000 in
set_option maxRecDepth 10000 in
theorem labelAnyOrder_walk0 (v0 : Value) (l0 : List Pr) (n : Int) (wn : (Lit.int .i64 n).wf = true) (W : World) (h0 : PsArg W v0 l0) (_ : True) :
    Calls Tryd.prog 5 #[v0, .int .i64 n] W (RetBelow W (.bool true)) := by
  have e0 := few_any v0 l0 W h0.1 h0.2
  have E0 := Lib.hid e0
  have hb := bounds_i64 wn
  clear e0 h0 wn
  obtain ⟨A, hA⟩ : ∃ A, A = few l0 := ⟨_, rfl⟩
  have sA := few_sm l0
  have nA := few_len l0
  rw [← hA] at E0 sA nA
  clear hA
  by_cases h1 : n < 0
  · go_enter Tryd.func5, Tryd.ntmps5
    go_wp2_with fail
    refine E0.out.mono ?_
    rintro e w1 ⟨a, rfl, n1⟩
    have N1 := Lib.hid n1
    clear n1
    go_wp2_with fail
    refine (awake6_any _).mono ?_
    rintro e w2 ⟨rfl, hb⟩
    have N2 := Lib.hid (N1.out.then_below hb)
    clear hb
    go_wp2_with fail
    refine (awake6_any _).mono ?_
    rintro e w3 ⟨rfl, hb⟩
    have N3 := Lib.hid (N2.out.then_below hb)
    clear hb
    go_wp2_with fail
    go_ret
    exact ⟨rfl, N3.out.below⟩
  · have h1' : decide (n < 0) = false := decide_eq_false h1
    by_cases h2 : (A.length : Int) < n
    · go_enter Tryd.func5, Tryd.ntmps5
      go_wp2_with fail
      refine E0.out.mono ?_
      rintro e w1 ⟨a, rfl, n1⟩
      obtain ⟨fA, fc, rfl, hfc⟩ := n1.buf.shape
      have N1 := Lib.hid n1
      clear n1
      go_wp2_with fail
      refine (awake6_any _).mono ?_
      rintro e w2 ⟨rfl, hb⟩
      have N2 := Lib.hid (N1.out.then_below hb)
      clear hb
      go_wp2_with fail
      refine (awake6_any _).mono ?_
      rintro e w3 ⟨rfl, hb⟩
      have N3 := Lib.hid (N2.out.then_below hb)
      clear hb
      go_wp2_with fail
      go_ret
      exact ⟨rfl, N3.out.below⟩
    · have h2' : decide ((A.length : Int) < n) = false := decide_eq_false h2
      obtain ⟨k, rfl⟩ : ∃ k : Nat, n = k := ⟨n.toNat, by omega⟩
      have hk : k ≤ A.length := by omega
      have hu := fun v w (h : PsAt w v A) => unlike_any v A w h
      by_cases h3 : Unlike A
      · have hu2 := fun v w (h : PsAt w v A) => (show Calls Tryd.prog 17 #[v] w (Quiet w (.bool true)) by have := hu v w h; rwa [decide_eq_true h3] at this)
        have HU := Lib.hid hu2
        have hBp : (A.drop k ++ A.take k).Perm A := List.perm_append_comm.trans (by rw [List.take_append_drop])
        have hs : sorted (A.drop k ++ A.take k) = sorted A := by
          refine (sorted_of ((sorted_perm A).trans hBp.symm) (sorted_asc A) ((unlike_perm hBp).2 h3)).symm
        have HM := Lib.hid (fun v w (h : PsAt w v A) => makeU_any v A w h (by omega) (fun p hp => by have := sA p hp; omega) h3)
        have HM2 := Lib.hid (fun v w (h : PsAt w v (A.drop k ++ A.take k)) => (show Calls Tryd.prog 11 #[v] w fun e w' => ∃ v', e = .returned (.tuple #[v', .int .i64 (errL (sorted A))]) ∧ NBuf w w' 57 2 v' (sorted A).length (pcs (sorted A)) by
          rw [← hs]
          exact makeU_any v _ w h (by rw [hBp.length_eq]; omega) (fun p hp => by have := sA p (hBp.mem_iff.1 hp); omega) ((unlike_perm hBp).2 h3)))
        obtain ⟨Z, hZ⟩ : ∃ Z, errL (sorted A) = Z := ⟨_, rfl⟩
        obtain ⟨SA, hSA⟩ : ∃ SA, sorted A = SA := ⟨_, rfl⟩
        rw [hZ, hSA] at HM HM2
        have CS := Lib.hid (fun v v' w (h : PsAt w v SA) (h' : PsAt w v' SA) => (show Calls Tryd.prog 25 #[v, v'] w (RetBelow w (.int .i64 0)) by
          have := lcompare_any v v' SA SA w h h'
          rwa [cmpL_zero.2 rfl] at this))
        clear hZ hSA hs hBp hu hu2 h3 sA
        go_enter Tryd.func5, Tryd.ntmps5
        go_wp2_with fail
        refine E0.out.mono ?_
        rintro e w1 ⟨a, rfl, n1⟩
        obtain ⟨fA, fc, rfl, hfc⟩ := n1.buf.shape
        have N1 := Lib.hid n1
        clear n1
        go_wp2_with fail
        refine (awake6_any _).mono ?_
        rintro e w2 ⟨rfl, hb⟩
        have N2 := Lib.hid (N1.out.then_below hb)
        clear hb
        go_wp2_with fail
        refine (HU.out _ _ N2.out.slice).mono ?_
        rintro e w3 ⟨rfl, q, rfl⟩
        have N3 := Lib.hid (N2.out.drewN q)
        go_wp2_with fail
        refine (HM.out _ _ N3.out.slice).mono ?_
        rintro e w4 ⟨b, rfl, n4⟩
        have NA4 := Lib.hid (N3.out.then_below n4.below)
        have NB4 := Lib.hid (n4.after N3.out.below)
        clear n4
        obtain ⟨i0, hi0, hi1, hi2, hi3⟩ := pair_ty.info
        have s1 := fun w => run_slice_f (P := Tryd.prog) (a := fA) (n := A.length) (c := fc) (t := 22) Tryd.underlying22 hi0 hi2 k hk hfc w
        have s2 := fun w => run_slice_t (P := Tryd.prog) (a := fA) (n := A.length) (c := fc) (t := 22) Tryd.underlying22 hi0 hi2 k (by omega) w
        have hp1 : SlAt w4 2 (.slice (dropA fA fc k 2) (A.length - k) (fc - k)) (A.drop k).length (pcs (A.drop k)) := by
          have := NA4.out.slice.part k A.length hk (Nat.le_refl _)
          rw [List.length_drop]
          rwa [List.take_of_length_le (by rw [List.length_drop, pcs_length]; omega), pcs_drop] at this
        have hp2 : SlAt w4 2 (.slice fA k fc) (A.take k).length (pcs (A.take k)) := by
          have hcm : fc ≤ maxLen := by
            obtain ⟨A', c', he, _, hcm⟩ := NA4.out.slice.shape
            injection he with _ _ he
            rw [he]; exact hcm
          have := NA4.out.slice.take k fc hk (by omega) hcm
          rw [List.length_take, Nat.min_eq_left hk]
          rwa [pcs_take] at this
        have P1 := Lib.hid hp1
        have P2 := Lib.hid hp2
        generalize dropA fA fc k 2 = fD at s1 P1
        clear hp1 hp2
        go_upto_region 5 with fail
        have hAd : (A.drop k).length = A.length - k := List.length_drop
        have hAt : (A.take k).length = k := by rw [List.length_take]; omega
        have HAD := Lib.hid hAd
        have HAT := Lib.hid hAt
        clear hAd hAt
        obtain ⟨X1, hX1⟩ : ∃ X, pcs (A.drop k) = X := ⟨_, rfl⟩
        obtain ⟨X2, hX2⟩ : ∃ X, pcs (A.take k) = X := ⟨_, rfl⟩
        have HX1 := Lib.hid (show (∀ u ∈ X1, u.oneCell' = true) ∧ SlAt w4 2 (.slice fD (A.length - k) (fc - k)) (A.length - k) X1 by rw [← hX1]; exact ⟨pcs_one _, by have := P1.out; rwa [HAD.out] at this⟩)
        have HX2 := Lib.hid (show (∀ u ∈ X2, u.oneCell' = true) ∧ SlAt w4 2 (.slice fA k fc) k X2 by rw [← hX2]; exact ⟨pcs_one _, by have := P2.out; rwa [HAT.out] at this⟩)
        have HX := Lib.hid (show X1 ++ X2 = pcs (A.drop k ++ A.take k) by rw [← hX1, ← hX2, pcs_append])
        have HKK := Lib.hid (show A.length - k + k = A.length by omega)
        have HLN := Lib.hid (show (A.drop k ++ A.take k).length = A.length by rw [List.length_append, HAD.out, HAT.out, HKK.out])
        clear hX1 hX2 P1 P2
        refine Dk.wp_region_chain (fun kQ => List.lookup kQ [(0, ((fun v => ∃ g, v = .slice (some ⟨g, 0, none⟩) 0 0), Dk.KF 4 (fun v w => FBuf w4 w 57 2 v 0 []))), (4, (isSl (A.length - k), Dk.KF 8 (fun v w => FBuf w4 w 57 2 v (A.length - k) X1))), (8, (isSl (A.length), Dk.KF 9 (fun v w => FBuf w4 w 57 2 v (A.length) (X1 ++ X2)))), (9, ((fun v => ∃ A' c', v = .tuple #[.slice A' SA.length c', .int .i64 Z]), Dk.KL (fun v w => ∃ A' c', v = .tuple #[.slice A' SA.length c', .int .i64 Z] ∧ NBuf w4 w 57 2 (.slice A' SA.length c') SA.length (pcs SA))))]) (Dk.RB 10 [4, 8]) (fun _ w => Below w4.heap.size w4 w) (by kernel_rfl) 56 (by kernel_rfl) rfl ?_ ?_ ?_ ?_ ?_ ?_
        · apply Dk.lookup_all (p := fun _ (g : (Value → Prop) × (Value → (Nat → Bool) → World → Prop)) => ∃ v, g.1 v)
          simp only [List.forall_mem_cons, List.not_mem_nil, false_imp_iff, implies_true, and_true]
          exact ⟨⟨_, 0, rfl⟩, isSl_some _, isSl_some _, ⟨_, none, 0, rfl⟩⟩
        · refine Dk.lookup_all ?_
          simp only [List.forall_mem_cons, List.not_mem_nil, false_imp_iff, implies_true, and_true]
          refine ⟨?_, ?_, ?_, ?_⟩
          · exact Dk.KF.keepB (fun _ _ _ hb h => h.below hb) (by kernel_rfl)
          · exact Dk.KF.keepB (fun _ _ _ hb h => h.below hb) (by kernel_rfl)
          · exact Dk.KF.keepB (fun _ _ _ hb h => h.below hb) (by kernel_rfl)
          · exact Dk.KL.keepLast (by kernel_rfl)
        · refine Dk.lookup_all ?_
          simp only [List.forall_mem_cons, List.not_mem_nil, false_imp_iff, implies_true, and_true]
          refine ⟨?_, ?_, ?_, ?_⟩
          · exact fun _ _ _ _ _ h => Dk.KF.pure h
          · exact fun _ _ _ _ _ h => Dk.KF.pure h
          · exact fun _ _ _ _ _ h => Dk.KF.pure h
          · exact fun _ _ _ _ _ h => h
        · exact fun _ _ _ _ h => h
        · exact Below.drew' (Below.refl _ _)
        refine Dk.Chain.weaken (F := Dk.atK []) (fun _ _ _ _ => trivial) ?_
        repeat (first
          | (refine Dk.Chain.step (v := ?_) (a' := ?_) rfl rfl rfl ?_ ?_ ?_
             rotate_left 2
             focus (intro w; go_simp; try with_reducible rfl)
             focus (simp only [Act.put, List.setIfInBounds_toArray, List.set_cons_succ, List.set_cons_zero]; try rfl))
          | (refine Dk.Chain.skip (a' := ?_) rfl rfl rfl ?_ ?_
             rotate_left 1
             focus (simp only [Act.put, List.setIfInBounds_toArray, List.set_cons_succ, List.set_cons_zero]; try rfl)))
        refine Dk.Chain.make _ _ rfl rfl rfl (fun D wx hx hD hF => ?_) (fun d0 hd0 a' ha => ?_)
        focus
          go_simp
          exact ⟨Dk.RB.of (by decide) (ba1 _ _), below_trans hx (ba1 _ _), fun _ => ⟨Buf.lit wx 57 2 0 [] (by simp) (Nat.zero_le _), fun k hk => by simp [Value.ownBlock] at hk; subst hk; exact hx.size⟩⟩
        obtain ⟨g0, rfl⟩ := hd0
        simp only [Act.put, List.setIfInBounds_toArray, List.set_cons_succ, List.set_cons_zero] at ha
        subst ha
        repeat (first
          | (refine Dk.Chain.step (v := ?_) (a' := ?_) rfl rfl rfl ?_ ?_ ?_
             rotate_left 2
             focus (intro w; go_simp; try with_reducible rfl)
             focus (simp only [Act.put, List.setIfInBounds_toArray, List.set_cons_succ, List.set_cons_zero]; try rfl))
          | (refine Dk.Chain.skip (a' := ?_) rfl rfl rfl ?_ ?_
             rotate_left 1
             focus (simp only [Act.put, List.setIfInBounds_toArray, List.set_cons_succ, List.set_cons_zero]; try rfl)))
        refine Dk.Chain.make _ _ rfl rfl rfl (fun D wx hx hD hF => ?_) (fun d4 hd4 a' ha => ?_)
        focus
          have f0 := (show Dk.KF 4 (fun v w => FBuf w4 w 57 2 v 0 []) _ D wx from Dk.atK_get' (hF 0 (by kernel_rfl)).2 rfl) hD
          refine oper_append_buf (.tmp 35) (.tmp 38) 22 rfl pair_ty rfl f0.buf rfl ((HX1.out.2.below hx).src (by omega) Tryd.underlying22 HX1.out.1) (by simp only [maxLen]; omega) (by omega) ?_
          intro v' w' hb ha hg
          rw [Nat.zero_add, List.nil_append] at hb
          have hbl := Ap.below_full ha
          exact ⟨v', rfl, Dk.RB.yes (by decide) rfl, below_trans hx hbl, hb.shape, fun _ => f0.grown hx.size hb hg⟩
        obtain ⟨A4, c4, rfl, hc4⟩ := hd4
        simp only [Act.put, List.setIfInBounds_toArray, List.set_cons_succ, List.set_cons_zero] at ha
        subst ha
        repeat (first
          | (refine Dk.Chain.step (v := ?_) (a' := ?_) rfl rfl rfl ?_ ?_ ?_
             rotate_left 2
             focus (intro w; go_simp; try with_reducible rfl)
             focus (simp only [Act.put, List.setIfInBounds_toArray, List.set_cons_succ, List.set_cons_zero]; try rfl))
          | (refine Dk.Chain.skip (a' := ?_) rfl rfl rfl ?_ ?_
             rotate_left 1
             focus (simp only [Act.put, List.setIfInBounds_toArray, List.set_cons_succ, List.set_cons_zero]; try rfl)))
        refine Dk.Chain.make _ _ rfl rfl rfl (fun D wx hx hD hF => ?_) (fun d8 hd8 a' ha => ?_)
        focus
          have f4 := (show Dk.KF 8 (fun v w => FBuf w4 w 57 2 v (A.length - k) X1) _ D wx from Dk.atK_get' (hF 4 (by kernel_rfl)).2 rfl) hD
          refine oper_append_buf (.tmp 39) (.tmp 42) 22 rfl pair_ty rfl f4.buf rfl ((HX2.out.2.below hx).src (by omega) Tryd.underlying22 HX2.out.1) (by simp only [maxLen]; omega) (by omega) ?_
          intro v' w' hb ha hg
          rw [HKK.out] at hb
          have hbl := ha.below hx.size f4.new
          exact ⟨v', rfl, Dk.RB.yes (by decide) rfl, hx.trans hbl, hb.shape, fun _ => f4.grown hx.size hb hg⟩
        obtain ⟨A8, c8, rfl, hc8⟩ := hd8
        simp only [Act.put, List.setIfInBounds_toArray, List.set_cons_succ, List.set_cons_zero] at ha
        subst ha
        repeat (first
          | (refine Dk.Chain.step (v := ?_) (a' := ?_) rfl rfl rfl ?_ ?_ ?_
             rotate_left 2
             focus (intro w; go_simp; try with_reducible rfl)
             focus (simp only [Act.put, List.setIfInBounds_toArray, List.set_cons_succ, List.set_cons_zero]; try rfl))
          | (refine Dk.Chain.skip (a' := ?_) rfl rfl rfl ?_ ?_
             rotate_left 1
             focus (simp only [Act.put, List.setIfInBounds_toArray, List.set_cons_succ, List.set_cons_zero]; try rfl)))
        refine Dk.Chain.make _ _ rfl rfl rfl (fun D wx hx hD hF => ?_) (fun d9 hd9 a' ha => ?_)
        focus
          have f8 := (show Dk.KF 9 (fun v w => FBuf w4 w 57 2 v (A.length) (X1 ++ X2)) _ D wx from Dk.atK_get' (hF 8 (by kernel_rfl)).2 rfl) hD
          have hsl := f8.buf
          rw [HX.out] at hsl
          have hsl2 : PsAt wx (.slice A8 (A.length) c8) (A.drop k ++ A.take k) := by
            unfold PsAt
            rw [HLN.out]
            exact SlAt.of_buf hsl
          go_simp
          (with_reducible refine (HM2.out _ _ hsl2).mono ?_)
          rintro e w' ⟨v', rfl, hn⟩
          obtain ⟨A', c', rfl, _⟩ := hn.buf.shape
          exact ⟨Dk.RB.of (by decide) hn.below, below_trans hx hn.below, ⟨A', c', rfl⟩, A', c', rfl, hn.after hx⟩
        obtain ⟨A9, c9, rfl⟩ := hd9
        simp only [Act.put, List.setIfInBounds_toArray, List.set_cons_succ, List.set_cons_zero] at ha
        subst ha
        repeat (first
          | (refine Dk.Chain.step (v := ?_) (a' := ?_) rfl rfl rfl ?_ ?_ ?_
             rotate_left 2
             focus (intro w; go_simp; try with_reducible rfl)
             focus (simp only [Act.put, List.setIfInBounds_toArray, List.set_cons_succ, List.set_cons_zero]; try rfl))
          | (refine Dk.Chain.skip (a' := ?_) rfl rfl rfl ?_ ?_
             rotate_left 1
             focus (simp only [Act.put, List.setIfInBounds_toArray, List.set_cons_succ, List.set_cons_zero]; try rfl)))
        refine Dk.Chain.end_facts (fun D wz hX hF => ?_)
        have h9 := (show Dk.KL (fun v w => ∃ A' c', v = .tuple #[.slice A' SA.length c', .int .i64 Z] ∧ NBuf w4 w 57 2 (.slice A' SA.length c') SA.length (pcs SA)) _ D wz from Dk.atK_get' (hF 9) rfl)
        obtain ⟨A', c', he, hn⟩ := h9
        obtain ⟨e1, _⟩ := (show A9 = A' ∧ c9 = c' by simp at he; exact he)
        subst e1
        have hc9 : c9 = c' := by simp at he; exact he
        subst hc9
        have NC9 := Lib.hid (hn.after NA4.out.below)
        have NB9 := Lib.hid (NB4.out.then_below hn.below)
        clear hn he hX hF
        go_wp2_with fail
        refine (CS.out _ _ _ NB9.out.slice NC9.out.slice).mono ?_
        rintro e wa ⟨rfl, hb⟩
        have ND := Lib.hid (NC9.out.then_below hb)
        clear hb
        go_wp2_with fail
        go_ret
        exact ⟨rfl, ND.out.below⟩
      · have hu2 := fun v w (h : PsAt w v A) => (show Calls Tryd.prog 17 #[v] w (Quiet w (.bool false)) by have := hu v w h; rwa [decide_eq_false h3] at this)
        have HU := Lib.hid hu2
        clear hu hu2 h3
        go_enter Tryd.func5, Tryd.ntmps5
        go_wp2_with fail
        refine E0.out.mono ?_
        rintro e w1 ⟨a, rfl, n1⟩
        obtain ⟨fA, fc, rfl, hfc⟩ := n1.buf.shape
        have N1 := Lib.hid n1
        clear n1
        go_wp2_with fail
        refine (awake6_any _).mono ?_
        rintro e w2 ⟨rfl, hb⟩
        have N2 := Lib.hid (N1.out.then_below hb)
        clear hb
        go_wp2_with fail
        refine (HU.out _ _ N2.out.slice).mono ?_
        rintro e w3 ⟨rfl, q, rfl⟩
        have N3 := Lib.hid (N2.out.drewN q)
        go_wp2_with fail
        refine (awake6_any _).mono ?_
        rintro e w4 ⟨rfl, hb⟩
        have N4 := Lib.hid (N3.out.then_below hb)
        clear hb
        go_wp2_with fail
        go_ret
        exact ⟨rfl, N4.out.below⟩

set_option maxHeartbeats 8000000 in
set_option maxRecDepth 100000 in
theorem labelAnyOrder_lifted (os : Os) (started : os.Started) (H : Type) (enc : TypeId × Value → H) :
    ReturnsInHanded {} Tryd.checked os 5 .any (fun w args => (Rows.labelAnyOrderSpec.pre enc Tryd.prog Tryd.f5 [] false w args ∧ laidMetH Tryd.prog [("unicode/utf8.acceptRanges", Rows.laid_unicode_utf8_acceptRanges), ("unicode/utf8.first", Rows.laid_unicode_utf8_first)] w) ∧ sizedMet enc Tryd.prog Tryd.f5 (OpenSpec.ofChange Rows.labelAnyOrderSpec) false w args)
      (Rows.labelAnyOrderSpec.post enc Tryd.prog Tryd.f5 false true false false) := by
  refine returnsInHanded_of_change_and (C := Tryd.checked) (X := fun w _ => laidMetH Tryd.prog [("unicode/utf8.acceptRanges", Rows.laid_unicode_utf8_acceptRanges), ("unicode/utf8.first", Rows.laid_unicode_utf8_first)] w) (fun _ _ _ hh h => h.of_heap hh) law_own started (by kernel_rfl) Tryd.func5
    (ChangeSpec.witness_shaped (enc := enc) (C := Tryd.checked) (os := os) (X := fun w _ => laidMetH Tryd.prog [("unicode/utf8.acceptRanges", Rows.laid_unicode_utf8_acceptRanges), ("unicode/utf8.first", Rows.laid_unicode_utf8_first)] w) false (World.laidAll Tryd.prog os [("unicode/utf8.acceptRanges", Rows.laid_unicode_utf8_acceptRanges), ("unicode/utf8.first", Rows.laid_unicode_utf8_first)]) #[.slice none 0 0, .int .i64 0] 8 (World.laidAll_os _ _ _)
      (World.shaped_of_ZipB (by kernel_rfl) (by kernel_rfl)) (by kernel_rfl) (by kernel_rfl) (by kernel_rfl) (door_met os _)) ?_
  intro W base args ds gs before hval0 hW _ _ hL _
  have hval : ∀ (j : Nat) t v, Tryd.f5.params[j]? = some t → args[j]? = some v → Value.okWide Tryd.prog W .any base t v := hval0
  have hW' := hW
  obtain ⟨p, q, hA0, hV, rfl, _, _⟩ := hW
  have hA : DataW.TrodAll enc Tryd.prog W 0 (fun _ => true) true Tryd.f5.params.toList args.toList ds p := hA0
  rw [Tryd.params5] at hA hval
  obtain ⟨v0, vs0, d0, ds0, p0, q0, hargs, rfl, rfl, h0, r0⟩ := trodAll_cons hA
  obtain ⟨v1, vs1, d1, ds1, p1, q1, rfl, rfl, rfl, h1, r1⟩ := trodAll_cons r0
  obtain ⟨rfl, rfl, rfl⟩ := trodAll_nil r1
  obtain rfl : args = #[v0, v1] := by cases args; simp_all
  obtain ⟨rfl, rfl⟩ := trodVars_none hV
  obtain ⟨a1, rfl, rfl, rfl, w1⟩ := open_int Tryd.underlying3 (hval 1 3 v1 rfl rfl) h1
  obtain ⟨ts0, hts0⟩ := open_pairs (hval 0 22 v0 rfl rfl) h0
  refine (labelAnyOrder_walk0 v0 ts0 a1 w1 W hts0 (of_laid hL)).mono fun e W' ⟨he, hb⟩ => ?_
  subst he
  exact ⟨_, rfl, law_post law_laid (by intro t ht; rw [Tryd.params5] at ht; simp only [List.mem_cons, List.not_mem_nil, or_false] at ht; rcases ht with rfl | rfl <;> exact ⟨by kernel_rfl, of_decide_eq_true (by kernel_rfl)⟩) rfl Tryd.underlying4 rfl rfl hW' hb⟩

theorem labelAnyOrder_holds : Rows.LabelAnyOrderSaid :=
  OpenClaim.holds_of_wide 5 Tryd.f5 rfl rfl rfl rfl rfl rfl rfl ⟨rfl, rfl, rfl, rfl, rfl⟩ rfl rfl rfl rfl rfl (by kernel_rfl) Tryd.func5 (by kernel_rfl)
    (of_decide_eq_true (by kernel_rfl)) (by unfold Func.isWrapper; first | (rw [if_pos (by decide +kernel)]; kernel_rfl) | (rw [if_neg (by decide +kernel)]; exact ⟨rfl, rfl⟩))
    (fun os started H enc _ => labelAnyOrder_lifted os started H enc)

theorem labelAnyOrder_card : Rows.LabelAnyOrderCardSaid :=
  Claim7.holds_tied_plain_at .later [] [.data, .pinned] true (true, "2d1145cbd28946932db5907653de828529f99ff6858137b0f836a60a01e5d84d") false
    labelAnyOrder_holds (fun _ h => by cases h) (by kernel_rfl) (fun _ h => by cases h) labelAnyOrder_row_tie rfl ⟨rfl, rfl⟩ (by kernel_rfl) rfl
    (fun f fn hf hfn => by
      obtain rfl : f = 5 := Option.some.inj ((show Tryd.prog.funcNamed "barograph/barographlaw06.LabelAnyOrder" = some 5 by kernel_rfl).symm.trans hf) |>.symm
      obtain rfl : fn = Tryd.f5 := (Option.some.inj (Tryd.func5.symm.trans hfn)).symm
      exact ⟨by kernel_rfl, fun j t ht => by
        rw [Tryd.params5] at ht
        rcases j with _ | j
        · obtain rfl : t = 22 := by simpa using ht.symm
          exact (show Tryd.prog.wantsStandIn 22 = false by kernel_rfl)
        rcases j with _ | j
        · obtain rfl : t = 3 := by simpa using ht.symm
          exact (show Tryd.prog.wantsStandIn 3 = false by kernel_rfl)
        simp at ht⟩)
    (by kernel_rfl)

end Go.Proofs.YtpjicajifdandaaDoor
