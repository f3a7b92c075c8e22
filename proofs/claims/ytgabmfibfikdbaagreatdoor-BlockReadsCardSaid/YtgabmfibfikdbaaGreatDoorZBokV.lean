/-
  Layer 16: the walk of the reference's Samples.
-/
import Derived.Test.YtgabmfibfikdbaaGreatDoorZXorD
import Derived.Test.YtgabmfibfikdbaaGreatDoorZMetU
import Derived.Test.YtgabmfibfikdbaaGreatDoorZXorT
import Derived.Test.YtgabmfibfikdbaaGreatDoorZLabH
import Derived.Test.YtgabmfibfikdbaaGreatDoorZBokC
import Derived.Test.YtgabmfibfikdbaaGreatDoorZLib12
import Derived.Test.YtgabmfibfikdbaaGreatDoorZLib24
import Derived.Deep.RegionLaw
import Derived.Test.YtgabmfibfikdbaaGreatDoorZLib2
import Derived.ChangeSame

namespace Go.Proofs.YtgabmfibfikdbaaGreatDoor
open Go.RowKit Go.Bar Go.Bar.Leb Go.Bar.Frm Go.Bar.Lab Go.Bar.Xor Go.Bar.Mrg Go.Bar.Met Go.Bar.Bok

theorem rtake_lt (L : List Bool) (a n : Nat) : (rtake L a n).1 < 2 ^ n := (rtake_bound (x := (rtake L a n).1) (b := (rtake L a n).2) rfl).1
theorem rin_lt {L : List Bool} {a fr wi : Nat} {R : Nat × Nat × Nat × Nat} (h : rin L a fr wi = some R) : R.1 < 18446744073709551616 := by
  unfold rin at h
  split at h
  · cases h
  · next hc =>
    injection h with h
    subst h
    have h1 := Nat.mul_lt_mul_of_pos_right (rtake_lt L a wi) (Nat.two_pow_pos (64 - fr - wi))
    rw [← Nat.pow_add] at h1
    have h2 : 2 ^ (wi + (64 - fr - wi)) ≤ 2 ^ 64 := Nat.pow_le_pow_right (by omega) (by omega)
    have h3 : (2 : Nat) ^ 64 = 18446744073709551616 := by decide
    show (rtake L a wi).1 * 2 ^ (64 - fr - wi) < _
    omega
theorem rval_lt {L : List Bool} {a fr wi : Nat} {R : Nat × Nat × Nat × Nat} (h : rval L a fr wi = some R) : R.1 < 18446744073709551616 := by
  unfold rval at h
  split at h
  · split at h
    · exact rin_lt h
    · exact rin_lt h
  · injection h with h
    subst h
    show 0 < _
    omega
theorem rloop_v (L : List Bool) : ∀ (k : Nat) (r : RS) (acc out : List Sm) (a : Nat), (∀ x ∈ acc, x.2 < 18446744073709551616) → rloop L k r acc = some (out, a) → ∀ x ∈ out, x.2 < 18446744073709551616
  | 0, r, acc, out, a, ha, h => by
    rw [rloop] at h
    injection h with h; injection h with h _
    subst h
    exact ha
  | k + 1, r, acc, out, a, ha, h => by
    have hsn : ∀ y : Sm, y.2 < 18446744073709551616 → ∀ x ∈ acc ++ [y], x.2 < 18446744073709551616 := fun y hy x hx => by
      rw [List.mem_append, List.mem_singleton] at hx
      rcases hx with hx | rfl
      · exact ha x hx
      · exact hy
    rw [rloop] at h
    split at h
    · split at h
      · refine rloop_v L k _ _ out a (hsn _ ?_) h
        have := rtake_lt L (rtake L r.a 41).2 64
        exact this
      · next was hw =>
        split at h
        · cases h
        · next x r' hr =>
          refine rloop_v L k r' _ out a (hsn _ ?_) h
          unfold rrest at hr
          split at hr
          · cases hr
          · next X b fr wi hv =>
            injection hr with hr; injection hr with hr _
            subst hr
            exact xor_lt (ha was (List.mem_of_getLast? hw)) (rval_lt hv)
    · injection h with h; injection h with h _
      subst h
      exact ha
theorem rsamples_v {w : List UInt8} {l : List Sm} (h : rsamples w = some l) : ∀ x ∈ l, x.2 < 18446744073709551616 := by
  unfold rsamples at h
  split at h
  · cases h
  split at h
  · cases h
  split at h
  · cases h
  unfold rbody rdone at h
  split at h
  · cases h
  · next out a ho =>
    split at h
    · cases h
    · injection h with h
      subst h
      exact rloop_v _ _ _ _ _ _ (by simp) ho
theorem rsamples_eq (d : List UInt8) : rsamples d = if (samplesR d).2 = 0 then some (samplesR d).1 else none := by
  by_cases h : (samplesR d).2 = 0
  · rw [if_pos h]
    rcases samplesR_prop d with ⟨_, h2, h3, h4⟩ | ⟨_, h2⟩
    · have h5 := rsamples_of (l := (samplesR d).1) (s := (ofS St.zero (samplesR d).1).1) (Prod.ext rfl h2) h4
      rw [h3] at h5
      exact h5
    · omega
  · rw [if_neg h]
    rcases hr : rsamples d with _ | l
    · rfl
    · obtain ⟨h1, h2⟩ := rsamples_some hr
      have h3 := samplesR_of (l := l) (s := (ofS St.zero l).1) (Prod.ext rfl h1) (rsamples_v hr)
      rw [h2] at h3
      rw [h3] at h
      exact absurd rfl h

theorem recs_dl : ∀ (n : Nat) (l : List UInt8), l.length ≤ n → ∀ r ∈ recs l, r.2.length ≤ l.length
  | 0, l, h => by
    have : l = [] := List.eq_nil_of_length_eq_zero (by omega)
    subst this
    rw [(recs_stop next_nil).1]
    intro r hr; cases hr
  | n + 1, l, h => by
    by_cases he : (Frm.next l).2.2 = 0
    · have h1 := next_left l he
      have h2 := congrArg List.length (next_one l he).1
      rw [List.length_append, rec_len] at h2
      rw [(recs_go he).1]
      intro r hr
      rcases List.mem_cons.1 hr with rfl | hr
      · omega
      · have := recs_dl n (Frm.next l).2.1 (by omega) r hr
        omega
    · rw [(recs_stop he).1]
      intro r hr; cases hr

set_option maxHeartbeats 16000000 in
set_option maxRecDepth 10000 in
theorem rsmps_any (s : List UInt8) (w : World) (hs : s.length ≤ 10000) :
    Calls Tryz.prog 13 #[.string (bs s)] w (RetSmE w (smpsR s)) := by
  have hall := fun w => refAll_any s w (by omega)
  have hrd : ∀ r ∈ recs s, r.2.length ≤ 10000 := fun r hr => Nat.le_trans (recs_dl s.length s (Nat.le_refl _) r hr) hs
  have hrl := recs_len s.length s (Nat.le_refl _)
  have hll := left_le s
  obtain ⟨R, hR⟩ : ∃ R, R = smpsR s := ⟨_, rfl⟩
  rw [← hR]
  obtain ⟨rs, hrs⟩ : ∃ rs, rs = recs s := ⟨_, rfl⟩
  rw [← hrs] at hall hrd hrl
  have HALL := Lib.hid hall
  have HR := Lib.hid hR
  have HRS := Lib.hid hrs
  have HRD := Lib.hid hrd
  clear hall hR hrs hrd
  by_cases hlf : left s = []
  · have h0 : (left s).length = 0 := by rw [hlf]; rfl
    rw [h0] at HALL
    have hc0 : ((s.length : Int) - ((0 : Nat) : Int)) = (s.length : Int) := by omega
    have HALL2 : Hid (∀ w, Calls Tryz.prog 45 #[.string (bs s)] w (RetAll w 108 rs (s.length : Int))) := Lib.hid (fun w => by have := HALL.out w; rwa [hc0] at this)
    have hno : tSm rs [] = none → R = ([], 3) := fun h => by rw [HR.out]; unfold smpsR; rw [if_neg (fun hh => hh hlf), ← HRS.out, h]
    have hyes : ∀ l, tSm rs [] = some l → R = (l, 0) := fun l h => by rw [HR.out]; unfold smpsR; rw [if_neg (fun hh => hh hlf), ← HRS.out, h]
    have HNO := Lib.hid hno
    have HYES := Lib.hid hyes
    clear hlf h0 hc0 hno hyes HALL HR HRS
    go_enter Tryz.func13, Tryz.ntmps13
    go_wp2_with fail
    refine (HALL2.out _).mono ?_
    rintro e w1 ⟨v, rfl, hb1, hbl1⟩
    obtain ⟨rA, rc, rfl, hrc⟩ := hb1.shape
    have HB1 := Lib.hid (SlAt.of_buf hb1)
    have HBL := Lib.hid hbl1
    obtain ⟨RN, hRN⟩ : ∃ RN, RN = rs.length := ⟨_, rfl⟩
    rw [← hRN] at hrc hrl ⊢
    have HRN := Lib.hid hRN
    clear hb1 hbl1 HALL2 hRN
    have HN0 := Lib.hid (NBuf.lit0 (Below.refl w1.heap.size w1) 41 2)
    go_upto_region 6 with fail
    go_loopw [23, 6] (fun i d wr => ∃ (k : Nat) (acc : List Sm), k ≤ RN ∧ i = .int .i64 k ∧ acc.length ≤ 120 * k ∧ Hid (NBuf w1 wr 41 2 d acc.length (smc acc)) ∧ Hid (tSm rs [] = tSm (rs.drop k) acc)) (fun i _ _ => RN - (intOf i).toNat)
    case atStart => exact ⟨0, [], Nat.zero_le _, rfl, Nat.zero_le _, HN0, Lib.hid rfl⟩
    case round =>
      obtain ⟨k, acc, hk, rfl, hal, hnb, HS⟩ := hrel
      clear HN0
      have hbw := Lib.hid hnb.out.below
      obtain ⟨fA, fc, rfl, hfc⟩ := hnb.out.buf.shape
      by_cases hgo : k < RN
      · obtain ⟨⟨kd, d⟩, hpk⟩ : ∃ p, rs[k]? = some p := ⟨_, List.getElem?_eq_getElem (by rw [← HRN.out]; exact hgo)⟩
        obtain ⟨b, o, rfl, hbb, g1, g2⟩ := recAt16 (HB1.out.below hbw.out) hpk
        have hdl := HRD.out _ (List.mem_of_getElem? hpk)
        have hat := tSm_at (acc := acc) hpk
        have hsm := fun w => rsamples_any d w (by dsimp only at hdl; omega)
        have hsl := samplesR_len d
        obtain ⟨sl, se, hsr⟩ : ∃ sl se, samplesR d = (sl, se) := ⟨_, _, rfl⟩
        dsimp only at hat
        rw [rsamples_eq, hsr] at hsm
        rw [hsr] at hat hsl
        dsimp only at hat hsl hsm
        have HAT := Lib.hid hat
        have hq := Blk.new wr #[.int .u8 (kd.toNat : Nat), .string (bs d)] 108
        have HN1 := Lib.hid (hnb.out.alloc (.cells #[.int .u8 (kd.toNat : Nat), .string (bs d)] 108))
        have HBW1 := Lib.hid (below_trans hbw.out (ba1 wr (.cells #[.int .u8 (kd.toNat : Nat), .string (bs d)] 108)))
        clear hpk hsr hat hnb hdl
        by_cases hse : se = 0
        rotate_left 1
        · rw [if_neg hse] at hsm
          have HSM := Lib.hid hsm
          have hR := HNO.out (by rw [HS.out, HAT.out, if_pos (.inl hse)])
          have HRES := Lib.hid hR
          clear hR hsm
          go_wp2_with fail
          refine (HSM.out _).mono ?_
          rintro e w2 ⟨v2, rfl, hv, _, hb2⟩
          obtain rfl := hv rfl
          have HBW2 := Lib.hid (below_trans HBW1.out hb2)
          clear hq HN1 HBW1 hb2
          go_upto_region 9 with fail
          refine wp_region_known [] (by kernel_rfl) 69 (by kernel_rfl) rfl ?_
          repeat (first
            | (refine Chain.step (v := ?_) (a' := ?_) rfl rfl rfl ?_ ?_ ?_; rotate_left 2; (focus (intro w; go_simp; try with_reducible rfl)); focus (simp only [Act.put, pqA, pqS, pqZ]; try rfl))
            | (refine Chain.skip (a' := ?_) rfl rfl rfl ?_ ?_; rotate_left 1; focus (simp only [Act.put, pqA, pqS, pqZ]; try rfl)))
          refine Chain.end_ (fun wz hwz _ => ?_)
          have HBX := Lib.hid (below_trans (below_trans HBL.out HBW2.out) hwz)
          go_wp2_with fail
          go_ret2
          rw [HRES.out]
          exact RetSmE.no HBX.out
        · subst hse
          rw [if_pos rfl] at hsm
          have HSM := Lib.hid hsm
          clear hsm
          go_wp2_with fail
          refine (HSM.out _).mono ?_
          rintro e w2 ⟨v2, rfl, _, hf, hb2⟩
          have hF : SmsAt w2 v2 sl := hf sl rfl
          obtain ⟨sA, sc, rfl, hsc, hscm⟩ := hF.shape
          have HNX0 := Lib.hid (HN1.out.then_below hb2)
          have HBW2 := Lib.hid (below_trans HBW1.out hb2)
          obtain ⟨Q, hQ⟩ : ∃ Q, Q = wr.heap.size := ⟨_, rfl⟩
          have HQ2 := Lib.hid (hq.below hb2)
          rw [← hQ] at HQ2
          have hF0 : SlAt w2 2 (.slice sA sl.length sc) sl.length (smc sl) := hF
          have HSX0 := Lib.hid hF0
          clear hq HN1 HBW1 hf hF hF0 hb2 hscm
          go_upto_region 9 with fail
          rw [← hQ]
          clear hQ
          by_cases hkd : kd = 4
          rotate_left 1
          · have hne : kd.toNat ≠ 4 := fun h => hkd (UInt8.toNat_inj.1 h)
            have hkz : (((kd.toNat : Nat) : Int) == 4) = false := by rw [beq_eq_false_iff_ne]; omega
            have hkz2 : (((kd.toNat : Nat) : Int) != 4) = true := by rw [bne_iff_ne]; omega
            have hR := HNO.out (by rw [HS.out, HAT.out, if_pos (.inr (.inl hkd))])
            have HRES := Lib.hid hR
            clear hR
            refine wp_region_known [(4, .int .u8 (kd.toNat : Nat))] (by kernel_rfl) 69 (by kernel_rfl) rfl ?_
            repeat (first
              | (refine Chain.step (v := ?_) (a' := ?_) rfl rfl rfl ?_ ?_ ?_; rotate_left 2; (focus (intro w; go_simp; try with_reducible rfl)); focus (simp only [Act.put, pqA, pqS, pqZ]; try rfl))
              | (refine Chain.call (i := 4) (a' := ?_) _ rfl rfl rfl (fun wx hw => ?_) ?_ ?_; rotate_left 1; (focus (obtain ⟨g0, g1⟩ := Blk.c2 (HQ2.out.below hw); go_simp; first | exact ⟨rfl, rB⟩ | exact rB)); focus (simp only [Act.put, pqA, pqS, pqZ]; try rfl))
              | (refine Chain.skip (a' := ?_) rfl rfl rfl ?_ ?_; rotate_left 1; focus (simp only [Act.put, pqA, pqS, pqZ]; try rfl)))
            refine Chain.end_ (fun wz hwz _ => ?_)
            have HBX := Lib.hid (below_trans (below_trans HBL.out HBW2.out) hwz)
            go_wp2_with fail
            go_ret2
            rw [HRES.out]
            exact RetSmE.no HBX.out
          · subst hkd
            have hkz : ((((4 : UInt8).toNat : Nat) : Int) == 4) = true := by decide
            by_cases hsn : sl = []
            · subst hsn
              have hR := HNO.out (by rw [HS.out, HAT.out, if_pos (.inr (.inr (.inl rfl)))])
              have HRES := Lib.hid hR
              clear hR
              refine wp_region_known [(4, .int .u8 ((4 : UInt8).toNat : Nat))] (by kernel_rfl) 69 (by kernel_rfl) rfl ?_
              repeat (first
                | (refine Chain.step (v := ?_) (a' := ?_) rfl rfl rfl ?_ ?_ ?_; rotate_left 2; (focus (intro w; go_simp; try with_reducible rfl)); focus (simp only [Act.put, pqA, pqS, pqZ]; try rfl))
                | (refine Chain.call (i := 4) (a' := ?_) _ rfl rfl rfl (fun wx hw => ?_) ?_ ?_; rotate_left 1; (focus (obtain ⟨g0, g1⟩ := Blk.c2 (HQ2.out.below hw); go_simp; first | exact ⟨rfl, rB⟩ | exact rB)); focus (simp only [Act.put, pqA, pqS, pqZ]; try rfl))
                | (refine Chain.skip (a' := ?_) rfl rfl rfl ?_ ?_; rotate_left 1; focus (simp only [Act.put, pqA, pqS, pqZ]; try rfl)))
              refine Chain.end_ (fun wz hwz _ => ?_)
              have HBX := Lib.hid (below_trans (below_trans HBL.out HBW2.out) hwz)
              go_wp2_with fail
              go_ret2
              rw [HRES.out]
              exact RetSmE.no HBX.out
            · have hsl0 : 0 < sl.length := List.length_pos_iff.2 hsn
              have hpz : ((sl.length : Int) == 0) = false := by rw [beq_eq_false_iff_ne]; omega
              have hp0 : (0 : Int) < (sl.length : Int) := by omega
              obtain ⟨y, hy⟩ : ∃ y, sl[0]? = some y := ⟨_, List.getElem?_eq_getElem hsl0⟩
              obtain ⟨sb, so, rfl, hsb, y0, _⟩ := SmsAt.at_ (l := sl) HSX0.out hy
              rw [Nat.zero_mul, Nat.add_zero] at y0
              have HYC : Hid (∀ w', Below w2.heap.size w2 w' → w'.cell? ⟨sb, so, none⟩ = some (.int .i64 y.1)) := Lib.hid fun w' hb => (Below.cell hb hsb).trans y0
              have HSN := Lib.hid hsn
              clear y0
              rcases hacc : acc with _ | ⟨x0, xs0⟩
              · subst hacc
                have HNE := Lib.hid (show ¬ ((0 : Nat) ≠ 0 ∨ (4 : UInt8) ≠ 4 ∨ sl = [] ∨ late [] sl) from by
                  rintro (h | h | h | h)
                  · exact h rfl
                  · exact h rfl
                  · exact HSN.out h
                  · exact late_nil _ h)
                clear hsn hy
                rw [List.length_nil] at HNX0 hfc ⊢
                rw [List.length_nil] at hal
                have HT2 := Lib.hid (HS.out.trans (by rw [HAT.out, if_neg HNE.out]))
                refine wp_region_known [(4, .int .u8 ((4 : UInt8).toNat : Nat))] (by kernel_rfl) 69 (by kernel_rfl) rfl ?_
                repeat (first
                  | (refine Chain.step (v := ?_) (a' := ?_) rfl rfl rfl ?_ ?_ ?_; rotate_left 2; (focus (intro w; go_simp; try with_reducible rfl)); focus (simp only [Act.put, pqA, pqS, pqZ]; try rfl))
                  | (refine Chain.call (i := 4) (a' := ?_) _ rfl rfl rfl (fun wx hw => ?_) ?_ ?_; rotate_left 1; (focus (obtain ⟨g0, g1⟩ := Blk.c2 (HQ2.out.below hw); go_simp; first | exact ⟨rfl, rB⟩ | exact rB)); focus (simp only [Act.put, pqA, pqS, pqZ]; try rfl))
                  | (refine Chain.skip (a' := ?_) rfl rfl rfl ?_ ?_; rotate_left 1; focus (simp only [Act.put, pqA, pqS, pqZ]; try rfl)))
                refine Chain.end_ (fun wz hwz _ => ?_)
                have HD := Lib.hid (HNX0.out.then_below hwz)
                have HS3 := Lib.hid (SlAt.below HSX0.out hwz)
                go_wp2_with (at_builtin; refine wpList_append_el rfl (.tmp 64) (.tmp 65) 32 32 rfl sm_ty rfl HD.out.buf rfl (HS3.out.src (by omega) (t := 32) Tryz.underlying32 (smc1 sl)) (by simp only [maxLen]; omega) (by omega) ?_; intro v' w' hb ha hg; have HN5 := Lib.hid (HD.out.step hb ha hg); clear hb ha hg)
                go_roundw
                case rel => exact ⟨k + 1, [] ++ sl, by omega, by go_num, by rw [List.nil_append]; omega, Lib.hid (by rw [List.length_append, smc_append]; exact HN5.out), HT2⟩
                case measure => simp [intOf]; try omega
              · rw [← hacc]
                obtain ⟨m, hm⟩ : ∃ m, acc.length = m + 1 := ⟨xs0.length, by rw [hacc]; rfl⟩
                obtain ⟨p, hx⟩ : ∃ p, acc[m]? = some p := ⟨_, List.getElem?_eq_getElem (by omega)⟩
                have hla := late_at hm hx hy
                obtain ⟨ab, ao, rfl, hab, x0', _⟩ := SmsAt.at_ (l := acc) HNX0.out.slice hx
                have HXC : Hid (∀ w', Below w2.heap.size w2 w' → w'.cell? ⟨ab, ao + m * 2, none⟩ = some (.int .i64 p.1)) := Lib.hid fun w' hb => (Below.cell hb hab).trans x0'
                have HLA := Lib.hid hla
                have hk0 : (0 : Int) < (acc.length : Int) := by omega
                have hk1 : 0 < acc.length := by omega
                have hk2 : ¬ acc = [] := by rw [hacc]; simp
                have hk3 : decide ((0 : Int) < (acc.length : Int)) = true := decide_eq_true hk0
                have hkw : IntKind.i64.wrap ((acc.length : Int) - 1) = (m : Int) := by rw [IntKind.wrap_i64]; omega
                have hkq : (m : Int) < (acc.length : Int) := by omega
                have hkq0 : (0 : Int) ≤ (m : Int) := by omega
                clear hla hm hx hy hsn hacc x0'
                by_cases hlt : y.1 ≤ p.1
                · have hd : decide (y.1 ≤ p.1) = true := decide_eq_true hlt
                  have hR := HNO.out (by rw [HS.out, HAT.out, if_pos (.inr (.inr (.inr (HLA.out.2 hlt))))])
                  have HRES := Lib.hid hR
                  clear hR
                  refine wp_region_known [(4, .int .u8 ((4 : UInt8).toNat : Nat)), (23, .int .i64 p.1), (27, .int .i64 y.1)] (by kernel_rfl) 69 (by kernel_rfl) rfl ?_
                  repeat (first
                    | (refine Chain.step (v := ?_) (a' := ?_) rfl rfl rfl ?_ ?_ ?_; rotate_left 2; (focus (intro w; go_simp; try with_reducible rfl)); focus (simp only [Act.put, pqA, pqS, pqZ]; try rfl))
                    | (refine Chain.call (i := 4) (a' := ?_) _ rfl rfl rfl (fun wx hw => ?_) ?_ ?_; rotate_left 1; (focus (obtain ⟨g0, g1⟩ := Blk.c2 (HQ2.out.below hw); go_simp; first | exact ⟨rfl, rB⟩ | exact rB)); focus (simp only [Act.put, pqA, pqS, pqZ]; try rfl))
                    | (refine Chain.call (i := 23) (a' := ?_) _ rfl rfl rfl (fun wx hw => ?_) ?_ ?_; rotate_left 1; (focus (have g0 := HXC.out _ hw); (go_simp); (first | exact ⟨rfl, rB⟩ | exact rB)); focus (simp only [Act.put, pqA, pqS, pqZ]; try rfl))
                    | (refine Chain.call (i := 27) (a' := ?_) _ rfl rfl rfl (fun wx hw => ?_) ?_ ?_; rotate_left 1; (focus (have g0 := HYC.out _ hw); (go_simp); (first | exact ⟨rfl, rB⟩ | exact rB)); focus (simp only [Act.put, pqA, pqS, pqZ]; try rfl))
                    | (refine Chain.skip (a' := ?_) rfl rfl rfl ?_ ?_; rotate_left 1; focus (simp only [Act.put, pqA, pqS, pqZ]; try rfl)))
                  refine Chain.end_ (fun wz hwz _ => ?_)
                  have HBX := Lib.hid (below_trans (below_trans HBL.out HBW2.out) hwz)
                  go_wp2_with fail
                  go_ret2
                  rw [HRES.out]
                  exact RetSmE.no HBX.out
                · have hd : decide (y.1 ≤ p.1) = false := decide_eq_false hlt
                  have HNE := Lib.hid (show ¬ ((0 : Nat) ≠ 0 ∨ (4 : UInt8) ≠ 4 ∨ sl = [] ∨ late acc sl) from by
                    rintro (h | h | h | h)
                    · exact h rfl
                    · exact h rfl
                    · exact HSN.out h
                    · exact hlt (HLA.out.1 h))
                  have HT2 := Lib.hid (HS.out.trans (by rw [HAT.out, if_neg HNE.out]))
                  refine wp_region_known [(4, .int .u8 ((4 : UInt8).toNat : Nat)), (23, .int .i64 p.1), (27, .int .i64 y.1)] (by kernel_rfl) 69 (by kernel_rfl) rfl ?_
                  repeat (first
                    | (refine Chain.step (v := ?_) (a' := ?_) rfl rfl rfl ?_ ?_ ?_; rotate_left 2; (focus (intro w; go_simp; try with_reducible rfl)); focus (simp only [Act.put, pqA, pqS, pqZ]; try rfl))
                    | (refine Chain.call (i := 4) (a' := ?_) _ rfl rfl rfl (fun wx hw => ?_) ?_ ?_; rotate_left 1; (focus (obtain ⟨g0, g1⟩ := Blk.c2 (HQ2.out.below hw); go_simp; first | exact ⟨rfl, rB⟩ | exact rB)); focus (simp only [Act.put, pqA, pqS, pqZ]; try rfl))
                    | (refine Chain.call (i := 23) (a' := ?_) _ rfl rfl rfl (fun wx hw => ?_) ?_ ?_; rotate_left 1; (focus (have g0 := HXC.out _ hw); (go_simp); (first | exact ⟨rfl, rB⟩ | exact rB)); focus (simp only [Act.put, pqA, pqS, pqZ]; try rfl))
                    | (refine Chain.call (i := 27) (a' := ?_) _ rfl rfl rfl (fun wx hw => ?_) ?_ ?_; rotate_left 1; (focus (have g0 := HYC.out _ hw); (go_simp); (first | exact ⟨rfl, rB⟩ | exact rB)); focus (simp only [Act.put, pqA, pqS, pqZ]; try rfl))
                    | (refine Chain.skip (a' := ?_) rfl rfl rfl ?_ ?_; rotate_left 1; focus (simp only [Act.put, pqA, pqS, pqZ]; try rfl)))
                  refine Chain.end_ (fun wz hwz _ => ?_)
                  have HD := Lib.hid (HNX0.out.then_below hwz)
                  have HS3 := Lib.hid (SlAt.below HSX0.out hwz)
                  go_wp2_with (at_builtin; refine wpList_append_el rfl (.tmp 64) (.tmp 65) 32 32 rfl sm_ty rfl HD.out.buf rfl (HS3.out.src (by omega) (t := 32) Tryz.underlying32 (smc1 sl)) (by simp only [maxLen]; omega) (by omega) ?_; intro v' w' hb ha hg; have HN5 := Lib.hid (HD.out.step hb ha hg); clear hb ha hg)
                  go_roundw
                  case rel => exact ⟨k + 1, acc ++ sl, by omega, by go_num, by rw [List.length_append]; omega, Lib.hid (by rw [List.length_append, smc_append]; exact HN5.out), HT2⟩
                  case measure => simp [intOf]; try omega
      · obtain rfl : k = RN := by omega
        have hR := HYES.out acc (by rw [HS.out, HRN.out, List.drop_length]; rfl)
        have HRES := Lib.hid hR
        have HNF := Lib.hid (hnb.out.after HBL.out)
        clear hR hnb
        go_wp2_with fail
        go_ret2
        rw [HRES.out]
        exact ⟨_, rfl, HNF.out⟩
  · have hlt : ((s.length : Int) - ((left s).length : Nat)) < (s.length : Int) := by
      have : 0 < (left s).length := List.length_pos_iff.2 hlf
      omega
    have hres : R = ([], 4) := by rw [HR.out]; unfold smpsR; rw [if_pos hlf]
    have HRES := Lib.hid hres
    obtain ⟨z, hz⟩ : ∃ z : Int, z = (s.length : Int) - ((left s).length : Nat) := ⟨_, rfl⟩
    rw [← hz] at hlt HALL
    clear hres hz hlf hll HR
    go_enter Tryz.func13, Tryz.ntmps13
    go_wp2_with fail
    refine (HALL.out _).mono ?_
    rintro e w1 ⟨v, rfl, hb1, hbl1⟩
    have HBL := Lib.hid hbl1
    clear hb1 hbl1 HALL
    go_wp2_with fail
    go_ret2
    rw [HRES.out]
    exact RetSmE.no HBL.out
end Go.Proofs.YtgabmfibfikdbaaGreatDoor

/-
  Layer 6: the walk of Is.
-/
namespace Go.Proofs.YtgabmfibfikdbaaGreatDoor
open Go.RowKit Go.Bar Go.Bar.Leb Go.Bar.Lab

set_option maxHeartbeats 4000000 in
set_option maxRecDepth 10000 in
theorem is_any6 (v v' : Value) (l : List Pr) (w : World) (h : PsAt w v l) (h' : PsAt w v' l) :
    Calls Tryz.prog 47 #[v, v'] w (RetBelow w (.int .i64 0)) := by
  obtain ⟨A, c, rfl, hlc, hcm⟩ := h.shape
  obtain ⟨A', c', rfl, hlc', hcm'⟩ := h'.shape
  unfold maxLen at hcm hcm'
  have hb : ((l.length : Int) != (l.length : Int)) = false := by simp
  go_enter Tryz.func47, Tryz.ntmps47
  go_wp2_with fail
  go_loopw [14] (fun i wr => ∃ k : Nat, k ≤ l.length ∧ i = .int .i64 k ∧ Below w.heap.size w wr) (fun i _ => l.length - (intOf i).toNat)
  case atStart => exact ⟨0, Nat.zero_le _, rfl, Below.refl _ _⟩
  case round =>
    clear hb
    obtain ⟨k, hk, rfl, hbl⟩ := hrel
    by_cases hgo : k < l.length
    · obtain ⟨p, hpk⟩ : ∃ p, l[k]? = some p := ⟨_, List.getElem?_eq_getElem hgo⟩
      obtain ⟨ba, oa, rfl, hba, g1, g2⟩ := (h.below hbl).at_ hpk
      obtain ⟨bb, ob, rfl, hbb, f1, f2⟩ := (h'.below hbl).at_ hpk
      clear hpk
      have hbl2 := below_trans hbl (below_alloc1 wr (.cells #[.string (bs p.1), .string (bs p.2)] 146))
      go_wp2_with fail
      go_quiet (fail)
      go_wp2_with fail
      go_roundw
      case rel => exact ⟨k + 1, by omega, by go_num, below_drewN hbl2 _⟩
      case measure => simp [intOf]; try omega
    · obtain rfl : k = l.length := by omega
      go_wp2_with fail
      go_ret
      exact ⟨rfl, hbl⟩

end Go.Proofs.YtgabmfibfikdbaaGreatDoor

/-
  Layer 16: the walks of the laws' own entries and same.
-/
namespace Go.Proofs.YtgabmfibfikdbaaGreatDoor
open Go.RowKit Go.Bar Go.Bar.Leb Go.Bar.Frm Go.Bar.Lab Go.Bar.Xor Go.Bar.Mrg Go.Bar.Met Go.Bar.Bok

theorem EsAt.at2 {w : World} {l : List Ev} {b o n c i : Nat} {x : Ev} (h : EsAt w (.slice (some ⟨b, o, none⟩) n c) l) (hi : l[i]? = some x) : PsAt w (.slice x.la x.ls.length x.lc) x.ls ∧ w.cell? ⟨b, o + i * 5, none⟩ = some (.slice x.la x.ls.length x.lc) ∧
    w.cell? ⟨b, o + i * 5 + 1, none⟩ = some (.int .i64 x.fr) ∧ w.cell? ⟨b, o + i * 5 + 2, none⟩ = some (.int .i64 x.n) ∧ w.cell? ⟨b, o + i * 5 + 3, none⟩ = some (.int .i64 x.mn) ∧ w.cell? ⟨b, o + i * 5 + 4, none⟩ = some (.int .i64 x.mx) := by
  obtain ⟨b2, o2, e, _, h0, h1, h2, h3, h4, h5⟩ := h.at_ hi
  injection e with e
  injection e with e1 e2 _
  subst e1; subst e2
  exact ⟨h0, h1, h2, h3, h4, h5⟩

def FinEn (w : World) (L : List En) (vs : Nat → Value) (w' : World) : Prop := ∃ es, DEs w w w w' 114 146 (vs 14) es ∧ es.map plE = L
theorem finEn_of {w w6 wx w' : World} {ov v' : Value} {L : List En} {es : List Ev} {ls : List Pr} {A3 : Option Addr} {c3 : Nat} {fr n mn mx : Int} (hE : DEs w w w wx 114 146 ov es) (hb0 : Below w.heap.size w wx)
    (f3 : FBuf w6 wx 146 2 (.slice A3 ls.length c3) ls.length (pcs ls)) (hs : w.heap.size ≤ w6.heap.size) (hb : Buf w' 114 5 v' (es.length + 1) (ecs es ++ encE ⟨ls, A3, c3, fr, n, mn, mx⟩)) (ha : Ap wx w' 5 ov) (hg : Grew wx ov v') (hL : (es ++ [(⟨ls, A3, c3, fr, n, mn, mx⟩ : Ev)]).map plE = L) :
    ∃ es, DEs w w w w' 114 146 v' es ∧ es.map plE = L :=
  ⟨es ++ [⟨ls, A3, c3, fr, n, mn, mx⟩], hE.snoc (.inr ⟨f3.buf, hb0, fun k hk => Nat.le_trans hs (f3.new k hk)⟩) (hE.n.step hb ha hg) ha (by decide), hL⟩
theorem encE_one16 (x : Ev) : ∀ u ∈ encE x, u.oneCell' = true := fun u hu => by
  simp [encE] at hu
  rcases hu with rfl | rfl | rfl | rfl | rfl <;> simp [Value.oneCell']
def RetEn (w : World) (R : List En) (e : Ending) (w' : World) : Prop := ∃ v l, e = .returned v ∧ DEs w w w w' 114 146 v l ∧ l.map plE = R

set_option maxHeartbeats 16000000 in
set_option maxRecDepth 10000 in
theorem entries16_any (v : Value) (l : List Ev) (w : World) (h : EsAt w v l) (hn : l.length ≤ 1000000) (hp : ∀ x ∈ l, x.ls.length ≤ 1000000) :
    Calls Tryz.prog 19 #[v] w (RetEn w (l.map plE)) := by
  obtain ⟨A, c, rfl, hlc, hcm⟩ := h.shape
  unfold maxLen at hcm
  obtain ⟨N, hN⟩ : ∃ N, N = l.length := ⟨_, rfl⟩
  have HE := Lib.hid h
  have HP := Lib.hid hp
  rw [← hN] at hlc hn HE ⊢
  have HNN := Lib.hid hN
  have HD0 : Hid (DEs w w w (w.alloc (.cells #[] 114)) 114 146 (.slice (some ⟨w.heap.size, 0, none⟩) 0 0) []) := Lib.hid ⟨NBuf.lit0 (Below.refl w.heap.size w) 114 5, Below.refl _ _, fun x hx => by cases hx⟩
  clear h hp hN
  go_enter Tryz.func19, Tryz.ntmps19
  go_upto_region 3 with fail
  go_loopw [9, 3] (fun iv ov wr => ∃ (k : Nat) (es : List Ev), iv = .int .i64 k ∧ k ≤ N ∧ es.length = k ∧ Hid (DEs w w w wr 114 146 ov es) ∧ Hid (es.map plE = (l.map plE).take k)) (fun iv _ _ => N - (intOf iv).toNat)
  case atStart => exact ⟨0, [], rfl, Nat.zero_le _, rfl, HD0, Lib.hid rfl⟩
  case round =>
    obtain ⟨k, es, rfl, hk, hel, HD, HEQ⟩ := hrel
    clear HD0
    obtain ⟨oA, oc, rfl, hoc⟩ := HD.out.n.buf.shape
    have HEL := Lib.hid hel
    have hesl : es.length ≤ 1000000 := by omega
    have hbw := HD.out.n.below
    clear hel
    by_cases hgo : k < N
    · obtain ⟨⟨ls, la, lc, fr, n, mn, mx⟩, hx⟩ : ∃ x, l[k]? = some x := ⟨_, List.getElem?_eq_getElem (by rw [← HNN.out]; exact hgo)⟩
      obtain ⟨eb, eo, rfl, _, hps, g0, g1, g2, g3, g4⟩ := (HE.out.below hbw).at_ hx
      dsimp only at g0 g1 g2 g3 g4 hps
      have hls := HP.out _ (List.mem_of_getElem? hx)
      dsimp only at hls
      have htk : (l.map plE).take (k + 1) = (l.map plE).take k ++ [⟨ls, fr, n, mn, mx⟩] := by rw [List.take_add_one, List.getElem?_map, hx]; rfl
      have HTK := Lib.hid htk
      obtain ⟨wb, hwb⟩ : ∃ wb, wb = wr.alloc (.cells #[.slice la ls.length lc, .int .i64 fr, .int .i64 n, .int .i64 mn, .int .i64 mx] 45) := ⟨_, rfl⟩
      have hb2 : Below wr.heap.size wr wb := by rw [hwb]; exact below_al _ _
      have HZ : Hid (Blk wb wr.heap.size 45 #[.slice la ls.length lc, .int .i64 fr, .int .i64 n, .int .i64 mn, .int .i64 mx]) := Lib.hid (by rw [hwb]; exact Blk.new _ _ _)
      have htl := fun w' (hb : Below wb.heap.size wb w') => told_any6 (.slice la ls.length lc) ls w' ((hps.below hb2).below hb) hls
      have HTL := Lib.hid htl
      have HD4 := Lib.hid (HD.out.below hb2)
      have HB4 := Lib.hid (below_trans hbw hb2)
      clear hx hps htk htl HD hbw hls
      go_upto_region 5 with fail
      rw [← hwb]
      obtain ⟨X, hX⟩ : ∃ X, X = wr.heap.size := ⟨_, rfl⟩
      rw [← hX] at HZ ⊢
      clear hwb hX hb2 g0 g1 g2 g3 g4
      have hstT : ∀ k v w w', Below w.heap.size w w' → Dv.factOf ([(2, ((fun v => v = (.slice la ls.length lc)), noFact, 2)), (3, ((fun v => ∃ A c, v = .slice A ls.length c), (fun v w' => FBuf wb w' 146 2 v ls.length (pcs ls)), 14)), (5, ((fun v => v = (.int .i64 fr)), noFact, 5)), (7, ((fun v => v = (.int .i64 n)), noFact, 7)), (9, ((fun v => v = (.int .i64 mn)), noFact, 9)), (11, ((fun v => v = (.int .i64 mx)), noFact, 11)), (13, ((fun v => ∃ g, v = .slice (some ⟨g, 0, none⟩) 1 1), (fun v w' => ∃ A c, FBuf wb w' 114 5 v 1 (encE ⟨ls, A, c, fr, n, mn, mx⟩) ∧ FBuf wb w' 146 2 (.slice A ls.length c) ls.length (pcs ls)), 14)), (14, ((isSl (es.length + 1)), noFact, 14))] : List (Nat × Dv.Kp)) k v w → Dv.factOf ([(2, ((fun v => v = (.slice la ls.length lc)), noFact, 2)), (3, ((fun v => ∃ A c, v = .slice A ls.length c), (fun v w' => FBuf wb w' 146 2 v ls.length (pcs ls)), 14)), (5, ((fun v => v = (.int .i64 fr)), noFact, 5)), (7, ((fun v => v = (.int .i64 n)), noFact, 7)), (9, ((fun v => v = (.int .i64 mn)), noFact, 9)), (11, ((fun v => v = (.int .i64 mx)), noFact, 11)), (13, ((fun v => ∃ g, v = .slice (some ⟨g, 0, none⟩) 1 1), (fun v w' => ∃ A c, FBuf wb w' 114 5 v 1 (encE ⟨ls, A, c, fr, n, mn, mx⟩) ∧ FBuf wb w' 146 2 (.slice A ls.length c) ls.length (pcs ls)), 14)), (14, ((isSl (es.length + 1)), noFact, 14))] : List (Nat × Dv.Kp)) k v w' := Dv.fact_st (by
        simp only [List.forall_mem_cons, List.not_mem_nil, false_imp_iff, implies_true, and_true]
        refine ⟨?_, ?_, ?_, ?_, ?_, ?_, ?_, ?_⟩
        · exact fun _ _ _ _ _ => trivial
        · exact fun _ _ _ hb h => h.below hb
        · exact fun _ _ _ _ _ => trivial
        · exact fun _ _ _ _ _ => trivial
        · exact fun _ _ _ _ _ => trivial
        · exact fun _ _ _ _ _ => trivial
        · exact fun _ _ _ hb ⟨A, c, h1, h2⟩ => ⟨A, c, h1.below hb, h2.below hb⟩
        · exact fun _ _ _ _ _ => trivial)
      have htrT : ∀ x ∈ ([(2, ((fun v => v = (.slice la ls.length lc)), noFact, 2)), (3, ((fun v => ∃ A c, v = .slice A ls.length c), (fun v w' => FBuf wb w' 146 2 v ls.length (pcs ls)), 14)), (5, ((fun v => v = (.int .i64 fr)), noFact, 5)), (7, ((fun v => v = (.int .i64 n)), noFact, 7)), (9, ((fun v => v = (.int .i64 mn)), noFact, 9)), (11, ((fun v => v = (.int .i64 mx)), noFact, 11)), (13, ((fun v => ∃ g, v = .slice (some ⟨g, 0, none⟩) 1 1), (fun v w' => ∃ A c, FBuf wb w' 114 5 v 1 (encE ⟨ls, A, c, fr, n, mn, mx⟩) ∧ FBuf wb w' 146 2 (.slice A ls.length c) ls.length (pcs ls)), 14)), (14, ((isSl (es.length + 1)), noFact, 14))] : List (Nat × Dv.Kp)), (([(2, ((fun v => v = (.slice la ls.length lc)), noFact, 2)), (3, ((fun v => ∃ A c, v = .slice A ls.length c), (fun v w' => FBuf wb w' 146 2 v ls.length (pcs ls)), 14)), (5, ((fun v => v = (.int .i64 fr)), noFact, 5)), (7, ((fun v => v = (.int .i64 n)), noFact, 7)), (9, ((fun v => v = (.int .i64 mn)), noFact, 9)), (11, ((fun v => v = (.int .i64 mx)), noFact, 11)), (13, ((fun v => ∃ g, v = .slice (some ⟨g, 0, none⟩) 1 1), (fun v w' => ∃ A c, FBuf wb w' 114 5 v 1 (encE ⟨ls, A, c, fr, n, mn, mx⟩) ∧ FBuf wb w' 146 2 (.slice A ls.length c) ls.length (pcs ls)), 14)), (14, ((isSl (es.length + 1)), noFact, 14))] : List (Nat × Dv.Kp)).lookup x.2.2.2).isSome = true := by
        simp only [List.forall_mem_cons, List.not_mem_nil, false_imp_iff, implies_true, and_true]
        exact ⟨by kernel_rfl, by kernel_rfl, by kernel_rfl, by kernel_rfl, by kernel_rfl, by kernel_rfl, by kernel_rfl, by kernel_rfl⟩
      refine Dv.wp_region_two (L := ([(2, ((fun v => v = (.slice la ls.length lc)), noFact, 2)), (3, ((fun v => ∃ A c, v = .slice A ls.length c), (fun v w' => FBuf wb w' 146 2 v ls.length (pcs ls)), 14)), (5, ((fun v => v = (.int .i64 fr)), noFact, 5)), (7, ((fun v => v = (.int .i64 n)), noFact, 7)), (9, ((fun v => v = (.int .i64 mn)), noFact, 9)), (11, ((fun v => v = (.int .i64 mx)), noFact, 11)), (13, ((fun v => ∃ g, v = .slice (some ⟨g, 0, none⟩) 1 1), (fun v w' => ∃ A c, FBuf wb w' 114 5 v 1 (encE ⟨ls, A, c, fr, n, mn, mx⟩) ∧ FBuf wb w' 146 2 (.slice A ls.length c) ls.length (pcs ls)), 14)), (14, ((isSl (es.length + 1)), noFact, 14))] : List (Nat × Dv.Kp))) (m := 14) (Fin := (FinEn w ((l.map plE).take (k + 1)))) (by kernel_rfl) 30 (by kernel_rfl) rfl (by kernel_rfl) ?_ ?_ ?_
      · simp only [List.forall_mem_cons, List.not_mem_nil, false_imp_iff, implies_true, and_true]
        exact ⟨⟨_, rfl⟩, ⟨_, none, 0, rfl⟩, ⟨_, rfl⟩, ⟨_, rfl⟩, ⟨_, rfl⟩, ⟨_, rfl⟩, ⟨_, 0, rfl⟩, isSl_some _⟩
      · exact (fun vs vs' w' h hf => by unfold FinEn at hf ⊢; rw [← h 14 (by kernel_rfl) (by decide)]; exact hf)
      repeat (first
        | (refine Dv.Chain.step (v := ?_) (a' := ?_) rfl rfl rfl ?_ ?_ ?_; rotate_left 2; (focus (intro w; go_simp; try with_reducible rfl)); focus (simp only [Act.put, pqA, pqS, pqZ]; try rfl))
        | (refine Dv.XT.call (i := 2) (a' := ?_) _ _ rfl (by decide) hstT rfl rfl (fun wx hw hF => ?_) htrT ?_ ?_; rotate_left 1; (focus (obtain ⟨g0, g1, g2, g3, g4⟩ := Blk.c5 (HZ.out.below hw); go_simp; first | exact ⟨rfl, rB⟩ | exact rB)); focus (simp only [Act.put, pqA, pqS, pqZ]; try rfl))
        | (refine Dv.XT.make (i := 3) _ _ _ rfl (by decide) hstT rfl rfl (fun wx hw hF => ?_) htrT (fun v3 hv3 a' ha => ?_); (focus (go_simp); (with_reducible refine (HTL.out _ hw).mono ?_); (rintro e w' ⟨v, rfl, hnb⟩); (obtain ⟨A, c, rfl, _⟩ := hnb.buf.shape); (exact ⟨⟨A, c, rfl⟩, hnb.below, hnb.buf, fun k hk => Nat.le_trans hw.size (hnb.new k hk)⟩)); obtain ⟨A3, c3, rfl⟩ := hv3; simp only [Act.put, pqA, pqS, pqZ] at ha; subst ha)
        | (refine Dv.XT.call (i := 5) (a' := ?_) _ _ rfl (by decide) hstT rfl rfl (fun wx hw hF => ?_) htrT ?_ ?_; rotate_left 1; (focus (obtain ⟨g0, g1, g2, g3, g4⟩ := Blk.c5 (HZ.out.below hw); go_simp; first | exact ⟨rfl, rB⟩ | exact rB)); focus (simp only [Act.put, pqA, pqS, pqZ]; try rfl))
        | (refine Dv.XT.call (i := 7) (a' := ?_) _ _ rfl (by decide) hstT rfl rfl (fun wx hw hF => ?_) htrT ?_ ?_; rotate_left 1; (focus (obtain ⟨g0, g1, g2, g3, g4⟩ := Blk.c5 (HZ.out.below hw); go_simp; first | exact ⟨rfl, rB⟩ | exact rB)); focus (simp only [Act.put, pqA, pqS, pqZ]; try rfl))
        | (refine Dv.XT.call (i := 9) (a' := ?_) _ _ rfl (by decide) hstT rfl rfl (fun wx hw hF => ?_) htrT ?_ ?_; rotate_left 1; (focus (obtain ⟨g0, g1, g2, g3, g4⟩ := Blk.c5 (HZ.out.below hw); go_simp; first | exact ⟨rfl, rB⟩ | exact rB)); focus (simp only [Act.put, pqA, pqS, pqZ]; try rfl))
        | (refine Dv.XT.call (i := 11) (a' := ?_) _ _ rfl (by decide) hstT rfl rfl (fun wx hw hF => ?_) htrT ?_ ?_; rotate_left 1; (focus (obtain ⟨g0, g1, g2, g3, g4⟩ := Blk.c5 (HZ.out.below hw); go_simp; first | exact ⟨rfl, rB⟩ | exact rB)); focus (simp only [Act.put, pqA, pqS, pqZ]; try rfl))
        | (refine Dv.XT.make (i := 13) _ _ _ rfl (by decide) hstT rfl rfl (fun wx hw hF => ?_) htrT (fun v13 hv13 a' ha => ?_); (focus (have f3 : (fun v w' => FBuf wb w' 146 2 v ls.length (pcs ls) : Value → World → Prop) _ wx := hF 3 _ (by kernel_rfl) rfl (by kernel_rfl)); (go_simp); (refine ⟨ba1 _ _, A3, c3, ⟨?_, fun k hk => by simp [Value.ownBlock] at hk; subst hk; exact hw.size⟩, f3.below (ba1 _ _)⟩); (exact Buf.lit wx 114 5 1 [.slice A3 ls.length c3, .int .i64 fr, .int .i64 n, .int .i64 mn, .int .i64 mx] rfl (by decide))); obtain ⟨g7, rfl⟩ := hv13; simp only [Act.put, pqA, pqS, pqZ] at ha; subst ha)
        | (refine Dv.XT.last (i := 14) _ _ _ rfl rfl (by kernel_rfl) rfl rfl (fun vs wx hw hF => ?_) (fun v14 hv14 a' ha => ?_); (focus (have f13 : (fun v w' => ∃ A c, FBuf wb w' 114 5 v 1 (encE ⟨ls, A, c, fr, n, mn, mx⟩) ∧ FBuf wb w' 146 2 (.slice A ls.length c) ls.length (pcs ls) : Value → World → Prop) _ wx := (hF 13 _ (by kernel_rfl) rfl).1 (by kernel_rfl)); (have q13 := (hF 13 _ (by kernel_rfl) rfl).2); (obtain ⟨A4, c4, f13, f3⟩ := f13); (have hE := HD4.out.below hw); (refine oper_append_buf (.tmp 13) (.tmp 26) 29 rfl rentry_ty rfl hE.n.buf rfl (f13.buf.src Tryz.underlying29 (encE_one16 _)) (by simp only [maxLen]; omega) (by omega) ?_); (intro v' w' hb ha hg); (refine ⟨v', rfl, hb.shape, ?_⟩); (unfold FinEn); (rw [Dv.updV_self]); (exact finEn_of hE (below_trans HB4.out hw) f3 HB4.out.size hb ha hg (by rw [List.map_append, HEQ.out, HTK.out]; rfl))); obtain ⟨A8, c8, rfl, hc8⟩ := hv14; simp only [Act.put, pqA, pqS, pqZ] at ha; subst ha)
        | (refine Dv.Chain.skip' (a' := ?_) rfl rfl rfl ?_ ?_; rotate_left 1; focus (simp only [Act.put, pqA, pqS, pqZ]; try rfl)))
      refine Dv.XT.end_ (by decide) (fun vs w10 hv hfin => ?_)
      unfold FinEn at hfin
      rw [hv 14 _ rfl] at hfin
      obtain ⟨es2, he1, he2⟩ := hfin
      have hl2 : es2.length = k + 1 ∨ N ≤ k := by
        have := congrArg List.length he2
        rw [List.length_map, List.length_take, List.length_map, ← HNN.out] at this
        omega
      have hl2 : es2.length = k + 1 := by omega
      have HE1 := Lib.hid he1
      have HE2 := Lib.hid he2
      have HL2 := Lib.hid hl2
      clear he1 he2 hv HD4 HB4 HZ HTL hl2
      go_wp2_with fail
      go_roundw
      case rel => exact ⟨k + 1, es2, by go_num, by omega, HL2.out, HE1, HE2⟩
      case measure => simp [intOf]; omega
    · obtain rfl : k = N := by omega
      have hEQ := HEQ.out
      rw [List.take_of_length_le (by rw [List.length_map, ← HNN.out]; exact Nat.le_refl _)] at hEQ
      have HQ := Lib.hid hEQ
      clear hEQ HEQ hbw
      go_wp2_with fail
      go_ret
      exact ⟨_, es, rfl, HD.out, HQ.out⟩

set_option maxHeartbeats 16000000 in
set_option maxRecDepth 10000 in
theorem same16_any (v v' : Value) (l l' : List Ev) (w : World) (h : EsAt w v l) (h' : EsAt w v' l') (he : l.map plE = l'.map plE) :
    Calls Tryz.prog 15 #[v, v'] w (RetBelow w (.bool true)) := by
  obtain ⟨A, c, rfl, hlc, hcm⟩ := h.shape
  obtain ⟨A', c', rfl, hlc', hcm'⟩ := h'.shape
  unfold maxLen at hcm hcm'
  have hll : l.length = l'.length := by have := congrArg List.length he; rwa [List.length_map, List.length_map] at this
  obtain ⟨N, hN⟩ : ∃ N, N = l.length := ⟨_, rfl⟩
  have hN' : N = l'.length := hN.trans hll
  have HE := Lib.hid h
  have HE' := Lib.hid h'
  rw [← hN] at hlc HE ⊢
  rw [← hN'] at hlc' HE' ⊢
  have HN := Lib.hid hN
  have HN' := Lib.hid hN'
  have HEQ := Lib.hid he
  have hb : ((N : Int) != (N : Int)) = false := by simp
  clear h h' he hN hN' hll
  go_enter Tryz.func15, Tryz.ntmps15
  go_upto_region 4 with fail
  clear hb
  go_loopw [14] (fun i wr => ∃ k : Nat, k ≤ N ∧ i = .int .i64 k ∧ Below w.heap.size w wr) (fun i _ => N - (intOf i).toNat)
  case atStart => exact ⟨0, Nat.zero_le _, rfl, Below.refl _ _⟩
  case round =>
    obtain ⟨k, hk, rfl, hbl⟩ := hrel
    by_cases hgo : k < N
    · obtain ⟨⟨ls, la, lc, fr, n, mn, mx⟩, hx⟩ : ∃ x, l[k]? = some x := ⟨_, List.getElem?_eq_getElem (by rw [← HN.out]; exact hgo)⟩
      obtain ⟨⟨ls', la', lc', fr', n', mn', mx'⟩, hx'⟩ : ∃ x, l'[k]? = some x := ⟨_, List.getElem?_eq_getElem (by rw [← HN'.out]; exact hgo)⟩
      have heq : plE ⟨ls, la, lc, fr, n, mn, mx⟩ = plE ⟨ls', la', lc', fr', n', mn', mx'⟩ := by
        have h1 : (l.map plE)[k]? = some (plE ⟨ls, la, lc, fr, n, mn, mx⟩) := by rw [List.getElem?_map, hx]; rfl
        have h2 : (l'.map plE)[k]? = some (plE ⟨ls', la', lc', fr', n', mn', mx'⟩) := by rw [List.getElem?_map, hx']; rfl
        rw [HEQ.out, h2] at h1
        injection h1 with h1
        exact h1.symm
      unfold plE at heq
      injection heq with e1 e2 e3 e4 e5
      dsimp only at e1 e2 e3 e4 e5
      subst e1; subst e2; subst e3; subst e4; subst e5
      obtain ⟨eb, eo, rfl, _, _⟩ := (HE.out.below hbl).at_ hx
      obtain ⟨fb, fo, rfl, _, hps', g0, g1, g2, g3, g4⟩ := (HE'.out.below hbl).at_ hx'
      dsimp only at g0 g1 g2 g3 g4 hps'
      have HX := Lib.hid hx
      obtain ⟨wb, hwb⟩ : ∃ wb, wb = wr.alloc (.cells #[.slice la' ls.length lc', .int .i64 fr, .int .i64 n, .int .i64 mn, .int .i64 mx] 114) := ⟨_, rfl⟩
      have hb2 : Below wr.heap.size wr wb := by rw [hwb]; exact below_al _ _
      have HZ : Hid (Blk wb wr.heap.size 114 #[.slice la' ls.length lc', .int .i64 fr, .int .i64 n, .int .i64 mn, .int .i64 mx]) := Lib.hid (by rw [hwb]; exact Blk.new _ _ _)
      have HB4 := Lib.hid (below_trans hbl hb2)
      have his := fun w' (hb : Below wb.heap.size wb w') => is_any6 (.slice la ls.length lc) (.slice la' ls.length lc') ls w' ((HE.out.below (below_trans HB4.out hb)).at2 HX.out).1 ((hps'.below hb2).below hb)
      have HIS := Lib.hid his
      clear hx hx' hps' his hbl
      go_upto_region 6 with fail
      rw [← hwb]
      obtain ⟨X, hX⟩ : ∃ X, X = wr.heap.size := ⟨_, rfl⟩
      rw [← hX] at HZ ⊢
      clear hwb hX hb2 g0 g1 g2 g3 g4
      refine wp_region_known [(4, .slice la ls.length lc), (6, .slice la' ls.length lc'), (7, .int .i64 0), (14, .int .i64 fr), (16, .int .i64 fr), (24, .int .i64 n), (26, .int .i64 n), (34, .int .i64 mn), (36, .int .i64 mn), (44, .int .i64 mx), (46, .int .i64 mx)] (by kernel_rfl) 69 (by kernel_rfl) rfl ?_
      repeat (first
        | (refine Chain.step (v := ?_) (a' := ?_) rfl rfl rfl ?_ ?_ ?_; rotate_left 2; (focus (intro w; go_simp; try with_reducible rfl)); focus (simp only [Act.put, pqA, pqS, pqZ]; try rfl))
        | (refine Chain.call (i := 4) (a' := ?_) _ rfl rfl rfl (fun wx hw => ?_) ?_ ?_; rotate_left 1; (focus (obtain ⟨_, g0, _⟩ := (HE.out.below (below_trans HB4.out hw)).at2 HX.out); (go_simp); (first | exact ⟨rfl, rB⟩ | exact rB)); focus (simp only [Act.put, pqA, pqS, pqZ]; try rfl))
        | (refine Chain.call (i := 6) (a' := ?_) _ rfl rfl rfl (fun wx hw => ?_) ?_ ?_; rotate_left 1; (focus (obtain ⟨g0, g1, g2, g3, g4⟩ := Blk.c5 (HZ.out.below hw); go_simp; first | exact ⟨rfl, rB⟩ | exact rB)); focus (simp only [Act.put, pqA, pqS, pqZ]; try rfl))
        | (refine Chain.call (i := 7) (a' := ?_) _ rfl rfl rfl (fun wx hw => ?_) ?_ ?_; rotate_left 1; (focus (go_simp; (with_reducible refine (HIS.out _ hw).mono ?_); exact (fun e w' ⟨h1, h2⟩ => by subst h1; exact ⟨rfl, h2⟩))); focus (simp only [Act.put, pqA, pqS, pqZ]; try rfl))
        | (refine Chain.call (i := 14) (a' := ?_) _ rfl rfl rfl (fun wx hw => ?_) ?_ ?_; rotate_left 1; (focus (obtain ⟨_, _, g0, _⟩ := (HE.out.below (below_trans HB4.out hw)).at2 HX.out); (go_simp); (first | exact ⟨rfl, rB⟩ | exact rB)); focus (simp only [Act.put, pqA, pqS, pqZ]; try rfl))
        | (refine Chain.call (i := 16) (a' := ?_) _ rfl rfl rfl (fun wx hw => ?_) ?_ ?_; rotate_left 1; (focus (obtain ⟨g0, g1, g2, g3, g4⟩ := Blk.c5 (HZ.out.below hw); go_simp; first | exact ⟨rfl, rB⟩ | exact rB)); focus (simp only [Act.put, pqA, pqS, pqZ]; try rfl))
        | (refine Chain.call (i := 24) (a' := ?_) _ rfl rfl rfl (fun wx hw => ?_) ?_ ?_; rotate_left 1; (focus (obtain ⟨_, _, _, g0, _⟩ := (HE.out.below (below_trans HB4.out hw)).at2 HX.out); (go_simp); (first | exact ⟨rfl, rB⟩ | exact rB)); focus (simp only [Act.put, pqA, pqS, pqZ]; try rfl))
        | (refine Chain.call (i := 26) (a' := ?_) _ rfl rfl rfl (fun wx hw => ?_) ?_ ?_; rotate_left 1; (focus (obtain ⟨g0, g1, g2, g3, g4⟩ := Blk.c5 (HZ.out.below hw); go_simp; first | exact ⟨rfl, rB⟩ | exact rB)); focus (simp only [Act.put, pqA, pqS, pqZ]; try rfl))
        | (refine Chain.call (i := 34) (a' := ?_) _ rfl rfl rfl (fun wx hw => ?_) ?_ ?_; rotate_left 1; (focus (obtain ⟨_, _, _, _, g0, _⟩ := (HE.out.below (below_trans HB4.out hw)).at2 HX.out); (go_simp); (first | exact ⟨rfl, rB⟩ | exact rB)); focus (simp only [Act.put, pqA, pqS, pqZ]; try rfl))
        | (refine Chain.call (i := 36) (a' := ?_) _ rfl rfl rfl (fun wx hw => ?_) ?_ ?_; rotate_left 1; (focus (obtain ⟨g0, g1, g2, g3, g4⟩ := Blk.c5 (HZ.out.below hw); go_simp; first | exact ⟨rfl, rB⟩ | exact rB)); focus (simp only [Act.put, pqA, pqS, pqZ]; try rfl))
        | (refine Chain.call (i := 44) (a' := ?_) _ rfl rfl rfl (fun wx hw => ?_) ?_ ?_; rotate_left 1; (focus (obtain ⟨_, _, _, _, _, g0⟩ := (HE.out.below (below_trans HB4.out hw)).at2 HX.out); (go_simp); (first | exact ⟨rfl, rB⟩ | exact rB)); focus (simp only [Act.put, pqA, pqS, pqZ]; try rfl))
        | (refine Chain.call (i := 46) (a' := ?_) _ rfl rfl rfl (fun wx hw => ?_) ?_ ?_; rotate_left 1; (focus (obtain ⟨g0, g1, g2, g3, g4⟩ := Blk.c5 (HZ.out.below hw); go_simp; first | exact ⟨rfl, rB⟩ | exact rB)); focus (simp only [Act.put, pqA, pqS, pqZ]; try rfl))
        | (refine Chain.skip (a' := ?_) rfl rfl rfl ?_ ?_; rotate_left 1; focus (simp only [Act.put, pqA, pqS, pqZ]; try rfl)))
      refine Chain.end_ (fun wy hwy _ => ?_)
      have HBY := Lib.hid (below_trans HB4.out hwy)
      go_wp2_with fail
      go_roundw
      case rel => exact ⟨k + 1, by omega, by go_num, HBY.out⟩
      case measure => simp [intOf]; omega
    · obtain rfl : k = N := by omega
      go_wp2_with fail
      go_ret
      exact ⟨rfl, hbl⟩
end Go.Proofs.YtgabmfibfikdbaaGreatDoor

/-
  Layer 6: pairs as arguments.
-/
namespace Go.Proofs.YtgabmfibfikdbaaGreatDoor
open Go.RowKit Go.Bar Go.Bar.Leb Go.Bar.Lab Go.ChangeShapes Go.WideShapes Go.ChangeAt

def PsArg (W : World) (v : Value) (l : List Pr) : Prop := PsAt W v l ∧ ∀ p ∈ l, p.1.length ≤ maxLen ∧ p.2.length ≤ maxLen

set_option maxRecDepth 10000 in
theorem open_pairs {H : Type} {enc : TypeId × Value → H} {W : World} {base b0 : Nat} {spare : Nat → Bool} {held : Bool} {r : Reach} {v : Value} {d : DataW H} {p : List MemPlace} (hval : Value.okWide Tryz.prog W r b0 22 v)
    (h : DataW.Trod enc Tryz.prog W base spare held 22 v d p) : ∃ l, PsArg W v l := by
  obtain ⟨A, n, c, rfl, hnc, hcm, hx⟩ := open_slice_fields Tryz.underlying22 Tryz.underlying128 (by kernel_rfl) (by kernel_rfl) (Nat.zero_lt_succ 1 : 0 < 2) hval h
  rcases Nat.eq_zero_or_pos n with h0 | h0
  · subst h0
    exact ⟨[], ⟨rfl, A, c, rfl, hnc, hcm, fun h => absurd h (by simp)⟩, by simp⟩
  · obtain ⟨b, o, rfl, hb, hf⟩ := hx h0
    obtain ⟨rs, hl, ht⟩ := list_of (fun i (r : Pr) => W.cell? ⟨b, o + i * 2, none⟩ = some (.string (bs r.1)) ∧ W.cell? ⟨b, o + i * 2 + 1, none⟩ = some (.string (bs r.2)) ∧ r.1.length ≤ maxLen ∧ r.2.length ≤ maxLen) n (fun i hi => by
      obtain ⟨x0, y0, k0, c0, t0⟩ := hf i hi 0 _ rfl
      obtain ⟨x1, y1, k1, c1, t1⟩ := hf i hi 1 _ rfl
      obtain ⟨s0, e0, _, w0⟩ := DataW.trod_string Tryz.underlying9 t0
      obtain ⟨s1, e1, _, w1⟩ := DataW.trod_string Tryz.underlying9 t1
      replace e0 : x0 = _ := (List.cons.inj e0).1
      replace e1 : x1 = _ := (List.cons.inj e1).1
      subst e0; subst e1
      refine ⟨(s0.data.toList, s1.data.toList), c0, ?_, w0, w1⟩
      rw [Nat.add_assoc]; exact c1)
    refine ⟨rs, ⟨flat2_length _ _ rs, some ⟨b, o, none⟩, c, by rw [hl], by rw [hl]; exact hnc, hcm, fun _ => ⟨b, o, rfl, hb, fun j hj => ?_⟩⟩, fun r hr => by obtain ⟨i, hi⟩ := List.mem_iff_getElem?.1 hr; exact (ht i r hi).2.2⟩
    have hlt : j / 2 < rs.length := by omega
    have hg := List.getElem?_eq_getElem hlt
    obtain ⟨g0, g1, _⟩ := ht _ _ hg
    obtain ⟨f0, f1⟩ := flat2 (fun x : Pr => Value.string (bs x.1)) (fun x : Pr => Value.string (bs x.2)) rs (j / 2) _ hg
    rcases Nat.mod_two_eq_zero_or_one j with hm | hm
    · have e : j / 2 * 2 = j := by omega
      rw [e] at g0 f0
      exact g0.trans f0.symm
    · have e : j / 2 * 2 + 1 = j := by omega
      rw [Nat.add_assoc, e] at g1
      rw [e] at f1
      exact g1.trans f1.symm

end Go.Proofs.YtgabmfibfikdbaaGreatDoor
