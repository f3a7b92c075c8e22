/-
 Layer 16: the walk of the reference's Samples.
-/
import Derived.Test.YtgabmfibfikdbaaGreatDoorZXorD
import Derived.Test.YtgabmfibfikdbaaGreatDoorZLabT
import Derived.Test.YtgabmfibfikdbaaGreatDoorZBokF
import Derived.Test.YtgabmfibfikdbaaGreatDoorZBokS
import Derived.Test.YtgabmfibfikdbaaGreatDoorZXorQ
import Derived.Test.YtgabmfibfikdbaaGreatDoorZMetU
import Derived.Test.YtgabmfibfikdbaaGreatDoorZIdtA
import Derived.BigQuiet
import Derived.Test.YtgabmfibfikdbaaGreatDoorZLib24
import Derived.Deep.RegionLaw
import Derived.Test.YtgabmfibfikdbaaGreatDoorZXorT
import Derived.Test.YtgabmfibfikdbaaGreatDoorZLabF
import Derived.Test.YtgabmfibfikdbaaGreatDoorZBokC
import Derived.Test.YtgabmfibfikdbaaGreatDoorZLib9
import Derived.BigRegion

namespace Go.Proofs.YtgabmfibfikdbaaGreatDoor
open Go.RowKit Go.Bar Go.Bar.Leb Go.Bar.Frm Go.Bar.Lab Go.Bar.Xor Go.Bar.Mrg Go.Bar.Met Go.Bar.Bok

theorem rtake_lt (L : List Bool) (a n : Nat) : (rtake L a n).1 < 2 ^ n := (rtake_bound (x := (rtake L a n).1) (b := (rtake L a n).2) rfl).1
theorem rin_lt {L : List Bool} {a fr wi : Nat} {R : Nat × Nat × Nat × Nat} (h : rin L a fr wi = some R) : R.1 < 18446744073709551616 := by
 unfold rin at h
 split at h
 ·cases h
 ·next hc =>
  injection h with h
  subst h
  have h1 := Nat.mul_lt_mul_of_pos_right (rtake_lt L a wi) (Nat.two_pow_pos (64 - fr - wi))
  rw [← Nat.pow_add] at h1
  have h2 : 2 ^ (wi + (64 - fr - wi)) ≤ 2 ^ 64 := Nat.pow_le_pow_right (by omega) (by omega)
  have h3 : (2 : Nat) ^ 64 = 18446744073709551616 := by decide
  show (rtake L a wi).1 * 2 ^ (64 - fr - wi) < _
  omega
theorem rval_lt {L : List Bool} {a fr wi : Nat} {R : Nat × Nat × Nat × Nat} (h : rval L a fr wi = some R) : R.1 < 18446744073709551616 := by
 unfold rval at h
 split at h
 ·split at h
  ·exact rin_lt h
  ·exact rin_lt h
 ·injection h with h
  subst h
  show 0 < _
  omega
theorem rloop_v (L : List Bool) : ∀ (k : Nat) (r : RS) (acc out : List Sm) (a : Nat), (∀ x ∈ acc, x.2 < 18446744073709551616) → rloop L k r acc = some (out, a) → ∀ x ∈ out, x.2 < 18446744073709551616
 | 0, r, acc, out, a, ha, h => by
  rw [rloop] at h
  injection h with h; injection h with h _
  subst h
  exact ha
 | k + 1, r, acc, out, a, ha, h => by
  have hsn : ∀ y : Sm, y.2 < 18446744073709551616 → ∀ x ∈ acc ++ [y], x.2 < 18446744073709551616 := fun y hy x hx => by
   rw [List.mem_append, List.mem_singleton] at hx
   rcases hx with hx | rfl
   ·exact ha x hx
   ·exact hy
  rw [rloop] at h
  split at h
  ·split at h
   ·refine rloop_v L k _ _ out a (hsn _ ?_) h
    have := rtake_lt L (rtake L r.a 41).2 64
    exact this
   ·next was hw =>
    split at h
    ·cases h
    ·next x r' hr =>
     refine rloop_v L k r' _ out a (hsn _ ?_) h
     unfold rrest at hr
     split at hr
     ·cases hr
     ·next X b fr wi hv =>
      injection hr with hr; injection hr with hr _
      subst hr
      exact xor_lt (ha was (List.mem_of_getLast? hw)) (rval_lt hv)
  ·injection h with h; injection h with h _
   subst h
   exact ha
theorem rsamples_v {w : List UInt8} {l : List Sm} (h : rsamples w = some l) : ∀ x ∈ l, x.2 < 18446744073709551616 := by
 unfold rsamples at h
 split at h
 ·cases h
 split at h
 ·cases h
 split at h
 ·cases h
 unfold rbody rdone at h
 split at h
 ·cases h
 ·next out a ho =>
  split at h
  ·cases h
  ·injection h with h
   subst h
   exact rloop_v _ _ _ _ _ _ (by simp) ho
theorem rsamples_eq (d : List UInt8) : rsamples d = if (samplesR d).2 = 0 then some (samplesR d).1 else none := by
 by_cases h : (samplesR d).2 = 0
 ·rw [if_pos h]
  rcases samplesR_prop d with ⟨_, h2, h3, h4⟩ | ⟨_, h2⟩
  ·have h5 := rsamples_of (l := (samplesR d).1) (s := (ofS St.zero (samplesR d).1).1) (Prod.ext rfl h2) h4
   rw [h3] at h5
   exact h5
  ·omega
 ·rw [if_neg h]
  rcases hr : rsamples d with _ | l
  ·rfl
  ·obtain ⟨h1, h2⟩ := rsamples_some hr
   have h3 := samplesR_of (l := l) (s := (ofS St.zero l).1) (Prod.ext rfl h1) (rsamples_v hr)
   rw [h2] at h3
   rw [h3] at h
   exact absurd rfl h

theorem recs_dl : ∀ (n : Nat) (l : List UInt8), l.length ≤ n → ∀ r ∈ recs l, r.2.length ≤ l.length
 | 0, l, h => by
  have : l = [] := List.eq_nil_of_length_eq_zero (by omega)
  subst this
  rw [(recs_stop next_nil).1]
  intro r hr; cases hr
 | n + 1, l, h => by
  by_cases he : (Frm.next l).2.2 = 0
  ·have h1 := next_left l he
   have h2 := congrArg List.length (next_one l he).1
   rw [List.length_append, rec_len] at h2
   rw [(recs_go he).1]
   intro r hr
   rcases List.mem_cons.1 hr with rfl | hr
   ·omega
   ·have := recs_dl n (Frm.next l).2.1 (by omega) r hr
    omega
  ·rw [(recs_stop he).1]
   intro r hr; cases hr

set_option maxHeartbeats 16000000 in
set_option maxRecDepth 10000 in
theorem rsmps_any (s : List UInt8) (w : World) (hs : s.length ≤ 10000) :
  Calls Tryz.prog 13 #[.string (bs s)] w (RetSmE w (smpsR s)) := by
 have hall := fun w => refAll_any s w (by omega)
 have hrd : ∀ r ∈ recs s, r.2.length ≤ 10000 := fun r hr => Nat.le_trans (recs_dl s.length s (Nat.le_refl _) r hr) hs
 have hrl := recs_len s.length s (Nat.le_refl _)
 have hll := left_le s
 obtain ⟨R, hR⟩ : ∃ R, R = smpsR s := ⟨_, rfl⟩
 rw [← hR]
 obtain ⟨rs, hrs⟩ : ∃ rs, rs = recs s := ⟨_, rfl⟩
 rw [← hrs] at hall hrd hrl
 have HALL := Lib.hid hall
 have HR := Lib.hid hR
 have HRS := Lib.hid hrs
 have HRD := Lib.hid hrd
 clear hall hR hrs hrd
 by_cases hlf : left s = []
 ·have h0 : (left s).length = 0 := by rw [hlf]; rfl
  rw [h0] at HALL
  have hc0 : ((s.length : Int) - ((0 : Nat) : Int)) = (s.length : Int) := by omega
  have HALL2 : Hid (∀ w, Calls Tryz.prog 45 #[.string (bs s)] w (RetAll w 108 rs (s.length : Int))) := Lib.hid (fun w => by have := HALL.out w; rwa [hc0] at this)
  have hno : tSm rs [] = none → R = ([], 3) := fun h => by rw [HR.out]; unfold smpsR; rw [if_neg (fun hh => hh hlf), ← HRS.out, h]
  have hyes : ∀ l, tSm rs [] = some l → R = (l, 0) := fun l h => by rw [HR.out]; unfold smpsR; rw [if_neg (fun hh => hh hlf), ← HRS.out, h]
  have HNO := Lib.hid hno
  have HYES := Lib.hid hyes
  clear hlf h0 hc0 hno hyes HALL HR HRS
  go_enter Tryz.func13, Tryz.ntmps13
  go_wp2_with fail
  refine (HALL2.out _).mono ?_
  rintro e w1 ⟨v, rfl, hb1, hbl1⟩
  obtain ⟨rA, rc, rfl, hrc⟩ := hb1.shape
  have HB1 := Lib.hid (SlAt.of_buf hb1)
  have HBL := Lib.hid hbl1
  obtain ⟨RN, hRN⟩ : ∃ RN, RN = rs.length := ⟨_, rfl⟩
  rw [← hRN] at hrc hrl ⊢
  have HRN := Lib.hid hRN
  clear hb1 hbl1 HALL2 hRN
  have HN0 := Lib.hid (NBuf.lit0 (Below.refl w1.heap.size w1) 41 2)
  go_upto_region 6 with fail
  go_loopw [23, 6] (fun i d wr => ∃ (k : Nat) (acc : List Sm), k ≤ RN ∧ i = .int .i64 k ∧ acc.length ≤ 120 * k ∧ Hid (NBuf w1 wr 41 2 d acc.length (smc acc)) ∧ Hid (tSm rs [] = tSm (rs.drop k) acc)) (fun i _ _ => RN - (intOf i).toNat)
  case atStart => exact ⟨0, [], Nat.zero_le _, rfl, Nat.zero_le _, HN0, Lib.hid rfl⟩
  case round =>
   obtain ⟨k, acc, hk, rfl, hal, hnb, HS⟩ := hrel
   clear HN0
   have hbw := Lib.hid hnb.out.below
   obtain ⟨fA, fc, rfl, hfc⟩ := hnb.out.buf.shape
   by_cases hgo : k < RN
   ·obtain ⟨⟨kd, d⟩, hpk⟩ : ∃ p, rs[k]? = some p := ⟨_, List.getElem?_eq_getElem (by rw [← HRN.out]; exact hgo)⟩
    obtain ⟨b, o, rfl, hbb, g1, g2⟩ := recAt16 (HB1.out.below hbw.out) hpk
    have hdl := HRD.out _ (List.mem_of_getElem? hpk)
    have hat := tSm_at (acc := acc) hpk
    have hsm := fun w => rsamples_any d w (by dsimp only at hdl; omega)
    have hsl := samplesR_len d
    obtain ⟨sl, se, hsr⟩ : ∃ sl se, samplesR d = (sl, se) := ⟨_, _, rfl⟩
    dsimp only at hat
    rw [rsamples_eq, hsr] at hsm
    rw [hsr] at hat hsl
    dsimp only at hat hsl hsm
    have HAT := Lib.hid hat
    have hq := Blk.new wr #[.int .u8 (kd.toNat : Nat), .string (bs d)] 108
    have HN1 := Lib.hid (hnb.out.alloc (.cells #[.int .u8 (kd.toNat : Nat), .string (bs d)] 108))
    have HBW1 := Lib.hid (below_trans hbw.out (ba1 wr (.cells #[.int .u8 (kd.toNat : Nat), .string (bs d)] 108)))
    clear hpk hsr hat hnb hdl
    by_cases hse : se = 0
    rotate_left 1
    ·rw [if_neg hse] at hsm
     have HSM := Lib.hid hsm
     have hR := HNO.out (by rw [HS.out, HAT.out, if_pos (.inl hse)])
     have HRES := Lib.hid hR
     clear hR hsm
     go_wp2_with fail
     refine (HSM.out _).mono ?_
     rintro e w2 ⟨v2, rfl, hv, _, hb2⟩
     obtain rfl := hv rfl
     have HBW2 := Lib.hid (below_trans HBW1.out hb2)
     clear hq HN1 HBW1 hb2
     go_upto_region 9 with fail
     refine wp_region_known [] (by kernel_rfl) 69 (by kernel_rfl) rfl ?_
     repeat (first
      | (refine Chain.step (v := ?_) (a' := ?_) rfl rfl rfl ?_ ?_ ?_; rotate_left 2; (focus (intro w; go_simp; try with_reducible rfl)); focus (simp only [Act.put, pqA, pqS, pqZ]; try rfl))
      | (refine Chain.skip (a' := ?_) rfl rfl rfl ?_ ?_; rotate_left 1; focus (simp only [Act.put, pqA, pqS, pqZ]; try rfl)))
     refine Chain.end_ (fun wz hwz _ => ?_)
     have HBX := Lib.hid (below_trans (below_trans HBL.out HBW2.out) hwz)
     go_wp2_with fail
     go_ret2
     rw [HRES.out]
     exact RetSmE.no HBX.out
    ·subst hse
     rw [if_pos rfl] at hsm
     have HSM := Lib.hid hsm
     clear hsm
     go_wp2_with fail
     refine (HSM.out _).mono ?_
     rintro e w2 ⟨v2, rfl, _, hf, hb2⟩
     have hF : SmsAt w2 v2 sl := hf sl rfl
     obtain ⟨sA, sc, rfl, hsc, hscm⟩ := hF.shape
     have HNX0 := Lib.hid (HN1.out.then_below hb2)
     have HBW2 := Lib.hid (below_trans HBW1.out hb2)
     obtain ⟨Q, hQ⟩ : ∃ Q, Q = wr.heap.size := ⟨_, rfl⟩
     have HQ2 := Lib.hid (hq.below hb2)
     rw [← hQ] at HQ2
     have hF0 : SlAt w2 2 (.slice sA sl.length sc) sl.length (smc sl) := hF
     have HSX0 := Lib.hid hF0
     clear hq HN1 HBW1 hf hF hF0 hb2 hscm
     go_upto_region 9 with fail
     rw [← hQ]
     clear hQ
     by_cases hkd : kd = 4
     rotate_left 1
     ·have hne : kd.toNat ≠ 4 := fun h => hkd (UInt8.toNat_inj.1 h)
      have hkz : (((kd.toNat : Nat) : Int) == 4) = false := by rw [beq_eq_false_iff_ne]; omega
      have hkz2 : (((kd.toNat : Nat) : Int) != 4) = true := by rw [bne_iff_ne]; omega
      have hR := HNO.out (by rw [HS.out, HAT.out, if_pos (.inr (.inl hkd))])
      have HRES := Lib.hid hR
      clear hR
      refine wp_region_known [(4, .int .u8 (kd.toNat : Nat))] (by kernel_rfl) 69 (by kernel_rfl) rfl ?_
      repeat (first
       | (refine Chain.step (v := ?_) (a' := ?_) rfl rfl rfl ?_ ?_ ?_; rotate_left 2; (focus (intro w; go_simp; try with_reducible rfl)); focus (simp only [Act.put, pqA, pqS, pqZ]; try rfl))
       | (refine Chain.call (i := 4) (a' := ?_) _ rfl rfl rfl (fun wx hw => ?_) ?_ ?_; rotate_left 1; (focus (obtain ⟨g0, g1⟩ := Blk.c2 (HQ2.out.below hw); go_simp; first | exact ⟨rfl, rB⟩ | exact rB)); focus (simp only [Act.put, pqA, pqS, pqZ]; try rfl))
       | (refine Chain.skip (a' := ?_) rfl rfl rfl ?_ ?_; rotate_left 1; focus (simp only [Act.put, pqA, pqS, pqZ]; try rfl)))
      refine Chain.end_ (fun wz hwz _ => ?_)
      have HBX := Lib.hid (below_trans (below_trans HBL.out HBW2.out) hwz)
      go_wp2_with fail
      go_ret2
      rw [HRES.out]
      exact RetSmE.no HBX.out
     ·subst hkd
      have hkz : ((((4 : UInt8).toNat : Nat) : Int) == 4) = true := by decide
      by_cases hsn : sl = []
      ·subst hsn
       have hR := HNO.out (by rw [HS.out, HAT.out, if_pos (.inr (.inr (.inl rfl)))])
       have HRES := Lib.hid hR
       clear hR
       refine wp_region_known [(4, .int .u8 ((4 : UInt8).toNat : Nat))] (by kernel_rfl) 69 (by kernel_rfl) rfl ?_
       repeat (first
        | (refine Chain.step (v := ?_) (a' := ?_) rfl rfl rfl ?_ ?_ ?_; rotate_left 2; (focus (intro w; go_simp; try with_reducible rfl)); focus (simp only [Act.put, pqA, pqS, pqZ]; try rfl))
        | (refine Chain.call (i := 4) (a' := ?_) _ rfl rfl rfl (fun wx hw => ?_) ?_ ?_; rotate_left 1; (focus (obtain ⟨g0, g1⟩ := Blk.c2 (HQ2.out.below hw); go_simp; first | exact ⟨rfl, rB⟩ | exact rB)); focus (simp only [Act.put, pqA, pqS, pqZ]; try rfl))
        | (refine Chain.skip (a' := ?_) rfl rfl rfl ?_ ?_; rotate_left 1; focus (simp only [Act.put, pqA, pqS, pqZ]; try rfl)))
       refine Chain.end_ (fun wz hwz _ => ?_)
       have HBX := Lib.hid (below_trans (below_trans HBL.out HBW2.out) hwz)
       go_wp2_with fail
       go_ret2
       rw [HRES.out]
       exact RetSmE.no HBX.out
      ·have hsl0 : 0 < sl.length := List.length_pos_iff.2 hsn
       have hpz : ((sl.length : Int) == 0) = false := by rw [beq_eq_false_iff_ne]; omega
       have hp0 : (0 : Int) < (sl.length : Int) := by omega
       obtain ⟨y, hy⟩ : ∃ y, sl[0]? = some y := ⟨_, List.getElem?_eq_getElem hsl0⟩
       obtain ⟨sb, so, rfl, hsb, y0, _⟩ := SmsAt.at_ (l := sl) HSX0.out hy
       rw [Nat.zero_mul, Nat.add_zero] at y0
       have HYC : Hid (∀ w', Below w2.heap.size w2 w' → w'.cell? ⟨sb, so, none⟩ = some (.int .i64 y.1)) := Lib.hid fun w' hb => (Below.cell hb hsb).trans y0
       have HSN := Lib.hid hsn
       clear y0
       rcases hacc : acc with _ | ⟨x0, xs0⟩
       ·subst hacc
        have HNE := Lib.hid (show ¬ ((0 : Nat) ≠ 0 ∨ (4 : UInt8) ≠ 4 ∨ sl = [] ∨ late [] sl) from by
         rintro (h | h | h | h)
         ·exact h rfl
         ·exact h rfl
         ·exact HSN.out h
         ·exact late_nil _ h)
        clear hsn hy
        rw [List.length_nil] at HNX0 hfc ⊢
        rw [List.length_nil] at hal
        have HT2 := Lib.hid (HS.out.trans (by rw [HAT.out, if_neg HNE.out]))
        refine wp_region_known [(4, .int .u8 ((4 : UInt8).toNat : Nat))] (by kernel_rfl) 69 (by kernel_rfl) rfl ?_
        repeat (first
         | (refine Chain.step (v := ?_) (a' := ?_) rfl rfl rfl ?_ ?_ ?_; rotate_left 2; (focus (intro w; go_simp; try with_reducible rfl)); focus (simp only [Act.put, pqA, pqS, pqZ]; try rfl))
         | (refine Chain.call (i := 4) (a' := ?_) _ rfl rfl rfl (fun wx hw => ?_) ?_ ?_; rotate_left 1; (focus (obtain ⟨g0, g1⟩ := Blk.c2 (HQ2.out.below hw); go_simp; first | exact ⟨rfl, rB⟩ | exact rB)); focus (simp only [Act.put, pqA, pqS, pqZ]; try rfl))
         | (refine Chain.skip (a' := ?_) rfl rfl rfl ?_ ?_; rotate_left 1; focus (simp only [Act.put, pqA, pqS, pqZ]; try rfl)))
        refine Chain.end_ (fun wz hwz _ => ?_)
        have HD := Lib.hid (HNX0.out.then_below hwz)
        have HS3 := Lib.hid (SlAt.below HSX0.out hwz)
        go_wp2_with (at_builtin; refine wpList_append_el rfl (.tmp 64) (.tmp 65) 32 32 rfl sm_ty rfl HD.out.buf rfl (HS3.out.src (by omega) (t := 32) Tryz.underlying32 (smc1 sl)) (by simp only [maxLen]; omega) (by omega) ?_; intro v' w' hb ha hg; have HN5 := Lib.hid (HD.out.step hb ha hg); clear hb ha hg)
        go_roundw
        case rel => exact ⟨k + 1, [] ++ sl, by omega, by go_num, by rw [List.nil_append]; omega, Lib.hid (by rw [List.length_append, smc_append]; exact HN5.out), HT2⟩
        case measure => simp [intOf]; try omega
       ·rw [← hacc]
        obtain ⟨m, hm⟩ : ∃ m, acc.length = m + 1 := ⟨xs0.length, by rw [hacc]; rfl⟩
        obtain ⟨p, hx⟩ : ∃ p, acc[m]? = some p := ⟨_, List.getElem?_eq_getElem (by omega)⟩
        have hla := late_at hm hx hy
        obtain ⟨ab, ao, rfl, hab, x0', _⟩ := SmsAt.at_ (l := acc) HNX0.out.slice hx
        have HXC : Hid (∀ w', Below w2.heap.size w2 w' → w'.cell? ⟨ab, ao + m * 2, none⟩ = some (.int .i64 p.1)) := Lib.hid fun w' hb => (Below.cell hb hab).trans x0'
        have HLA := Lib.hid hla
        have hk0 : (0 : Int) < (acc.length : Int) := by omega
        have hk1 : 0 < acc.length := by omega
        have hk2 : ¬ acc = [] := by rw [hacc]; simp
        have hk3 : decide ((0 : Int) < (acc.length : Int)) = true := decide_eq_true hk0
        have hkw : IntKind.i64.wrap ((acc.length : Int) - 1) = (m : Int) := by rw [IntKind.wrap_i64]; omega
        have hkq : (m : Int) < (acc.length : Int) := by omega
        have hkq0 : (0 : Int) ≤ (m : Int) := by omega
        clear hla hm hx hy hsn hacc x0'
        by_cases hlt : y.1 ≤ p.1
        ·have hd : decide (y.1 ≤ p.1) = true := decide_eq_true hlt
         have hR := HNO.out (by rw [HS.out, HAT.out, if_pos (.inr (.inr (.inr (HLA.out.2 hlt))))])
         have HRES := Lib.hid hR
         clear hR
         refine wp_region_known [(4, .int .u8 ((4 : UInt8).toNat : Nat)), (23, .int .i64 p.1), (27, .int .i64 y.1)] (by kernel_rfl) 69 (by kernel_rfl) rfl ?_
         repeat (first
          | (refine Chain.step (v := ?_) (a' := ?_) rfl rfl rfl ?_ ?_ ?_; rotate_left 2; (focus (intro w; go_simp; try with_reducible rfl)); focus (simp only [Act.put, pqA, pqS, pqZ]; try rfl))
          | (refine Chain.call (i := 4) (a' := ?_) _ rfl rfl rfl (fun wx hw => ?_) ?_ ?_; rotate_left 1; (focus (obtain ⟨g0, g1⟩ := Blk.c2 (HQ2.out.below hw); go_simp; first | exact ⟨rfl, rB⟩ | exact rB)); focus (simp only [Act.put, pqA, pqS, pqZ]; try rfl))
          | (refine Chain.call (i := 23) (a' := ?_) _ rfl rfl rfl (fun wx hw => ?_) ?_ ?_; rotate_left 1; (focus (have g0 := HXC.out _ hw); (go_simp); (first | exact ⟨rfl, rB⟩ | exact rB)); focus (simp only [Act.put, pqA, pqS, pqZ]; try rfl))
          | (refine Chain.call (i := 27) (a' := ?_) _ rfl rfl rfl (fun wx hw => ?_) ?_ ?_; rotate_left 1; (focus (have g0 := HYC.out _ hw); (go_simp); (first | exact ⟨rfl, rB⟩ | exact rB)); focus (simp only [Act.put, pqA, pqS, pqZ]; try rfl))
          | (refine Chain.skip (a' := ?_) rfl rfl rfl ?_ ?_; rotate_left 1; focus (simp only [Act.put, pqA, pqS, pqZ]; try rfl)))
         refine Chain.end_ (fun wz hwz _ => ?_)
         have HBX := Lib.hid (below_trans (below_trans HBL.out HBW2.out) hwz)
         go_wp2_with fail
         go_ret2
         rw [HRES.out]
         exact RetSmE.no HBX.out
        ·have hd : decide (y.1 ≤ p.1) = false := decide_eq_false hlt
         have HNE := Lib.hid (show ¬ ((0 : Nat) ≠ 0 ∨ (4 : UInt8) ≠ 4 ∨ sl = [] ∨ late acc sl) from by
          rintro (h | h | h | h)
          ·exact h rfl
          ·exact h rfl
          ·exact HSN.out h
          ·exact hlt (HLA.out.1 h))
         have HT2 := Lib.hid (HS.out.trans (by rw [HAT.out, if_neg HNE.out]))
         refine wp_region_known [(4, .int .u8 ((4 : UInt8).toNat : Nat)), (23, .int .i64 p.1), (27, .int .i64 y.1)] (by kernel_rfl) 69 (by kernel_rfl) rfl ?_
         repeat (first
          | (refine Chain.step (v := ?_) (a' := ?_) rfl rfl rfl ?_ ?_ ?_; rotate_left 2; (focus (intro w; go_simp; try with_reducible rfl)); focus (simp only [Act.put, pqA, pqS, pqZ]; try rfl))
          | (refine Chain.call (i := 4) (a' := ?_) _ rfl rfl rfl (fun wx hw => ?_) ?_ ?_; rotate_left 1; (focus (obtain ⟨g0, g1⟩ := Blk.c2 (HQ2.out.below hw); go_simp; first | exact ⟨rfl, rB⟩ | exact rB)); focus (simp only [Act.put, pqA, pqS, pqZ]; try rfl))
          | (refine Chain.call (i := 23) (a' := ?_) _ rfl rfl rfl (fun wx hw => ?_) ?_ ?_; rotate_left 1; (focus (have g0 := HXC.out _ hw); (go_simp); (first | exact ⟨rfl, rB⟩ | exact rB)); focus (simp only [Act.put, pqA, pqS, pqZ]; try rfl))
          | (refine Chain.call (i := 27) (a' := ?_) _ rfl rfl rfl (fun wx hw => ?_) ?_ ?_; rotate_left 1; (focus (have g0 := HYC.out _ hw); (go_simp); (first | exact ⟨rfl, rB⟩ | exact rB)); focus (simp only [Act.put, pqA, pqS, pqZ]; try rfl))
          | (refine Chain.skip (a' := ?_) rfl rfl rfl ?_ ?_; rotate_left 1; focus (simp only [Act.put, pqA, pqS, pqZ]; try rfl)))
         refine Chain.end_ (fun wz hwz _ => ?_)
         have HD := Lib.hid (HNX0.out.then_below hwz)
         have HS3 := Lib.hid (SlAt.below HSX0.out hwz)
         go_wp2_with (at_builtin; refine wpList_append_el rfl (.tmp 64) (.tmp 65) 32 32 rfl sm_ty rfl HD.out.buf rfl (HS3.out.src (by omega) (t := 32) Tryz.underlying32 (smc1 sl)) (by simp only [maxLen]; omega) (by omega) ?_; intro v' w' hb ha hg; have HN5 := Lib.hid (HD.out.step hb ha hg); clear hb ha hg)
         go_roundw
         case rel => exact ⟨k + 1, acc ++ sl, by omega, by go_num, by rw [List.length_append]; omega, Lib.hid (by rw [List.length_append, smc_append]; exact HN5.out), HT2⟩
         case measure => simp [intOf]; try omega
   ·obtain rfl : k = RN := by omega
    have hR := HYES.out acc (by rw [HS.out, HRN.out, List.drop_length]; rfl)
    have HRES := Lib.hid hR
    have HNF := Lib.hid (hnb.out.after HBL.out)
    clear hR hnb
    go_wp2_with fail
    go_ret2
    rw [HRES.out]
    exact ⟨_, rfl, HNF.out⟩
 ·have hlt : ((s.length : Int) - ((left s).length : Nat)) < (s.length : Int) := by
   have : 0 < (left s).length := List.length_pos_iff.2 hlf
   omega
  have hres : R = ([], 4) := by rw [HR.out]; unfold smpsR; rw [if_pos hlf]
  have HRES := Lib.hid hres
  obtain ⟨z, hz⟩ : ∃ z : Int, z = (s.length : Int) - ((left s).length : Nat) := ⟨_, rfl⟩
  rw [← hz] at hlt HALL
  clear hres hz hlf hll HR
  go_enter Tryz.func13, Tryz.ntmps13
  go_wp2_with fail
  refine (HALL.out _).mono ?_
  rintro e w1 ⟨v, rfl, hb1, hbl1⟩
  have HBL := Lib.hid hbl1
  clear hb1 hbl1 HALL
  go_wp2_with fail
  go_ret2
  rw [HRES.out]
  exact RetSmE.no HBL.out
end Go.Proofs.YtgabmfibfikdbaaGreatDoor

/-
 Layer 6: the walk of the reference's Sorted.
-/
namespace Go.Proofs.YtgabmfibfikdbaaGreatDoor
open Go.RowKit Go.Bar Go.Bar.Leb Go.Bar.Lab

def InsS (p : Pr) (acc : List Pr) (j : Nat) (dn : Bool) (ys : List Pr) : Prop :=
 match dn with
 | true => ys = ins p (acc.take j) ∧ ∃ q ∈ acc.take j, p.1 < q.1
 | false => ys = acc.take j ∧ ∀ q ∈ acc.take j, ¬ p.1 < q.1
section
variable {p q : Pr} {acc ys : List Pr} {j : Nat}
theorem InsS.start : InsS p acc 0 false [] := ⟨by simp, by simp⟩
theorem take_snoc' (hq : acc[j]? = some q) : acc.take (j + 1) = acc.take j ++ [q] := by rw [List.take_add_one, hq]; rfl
theorem InsS.on (h : InsS p acc j true ys) (hq : acc[j]? = some q) : InsS p acc (j + 1) true (ys ++ [q]) := by
 obtain ⟨rfl, x, hx, hlt⟩ := h
 refine ⟨?_, x, by rw [take_snoc' hq]; exact List.mem_append_left _ hx, hlt⟩
 rw [take_snoc' hq, ins_done p _ _ ⟨x, hx, hlt⟩]
end

end Go.Proofs.YtgabmfibfikdbaaGreatDoor

/-
 Layer 6: the walk of the reference's Take.
-/
namespace Go.Proofs.YtgabmfibfikdbaaGreatDoor
open Go.RowKit Go.Bar Go.Bar.Leb Go.Bar.Lab

def RetRTk (w : World) (s : List UInt8) (e : Ending) (w' : World) : Prop :=
 ∃ v l r c, Lab.take s = (l, r, c) ∧ e = .returned (.tuple #[v, .string (bs r), .int .i64 (c : Nat)]) ∧ NBuf w w' 146 2 v l.length (pcs l)

set_option maxHeartbeats 8000000 in
set_option maxRecDepth 10000 in
theorem rtake_any (s : List UInt8) (w : World) (hs : s.length ≤ 1000000000000) :
  Calls Tryz.prog 81 #[.string (bs s)] w (RetRTk w s) := by
 obtain ⟨n, r, e, hm⟩ : ∃ n r e, takeMost s 8 = (n, r, e) := ⟨_, _, _, rfl⟩
 have hp := takeMost_prop s 8 (by omega)
 rw [hm] at hp
 simp only at hp
 have hrl : r.length ≤ s.length := hp.2.1
 have HM := Lib.hid (refTakeMost_of (bs s) 8 hm)
 by_cases he : e = 0
 ·subst he
  have hn8 : n ≤ 8 := takeMost_le8 hm
  obtain ⟨s0, hs0⟩ : ∃ s0, s0 = (if (tp n r).2.2 ≠ 0 then (([], [], (tp n r).2.2) : List Pr × List UInt8 × Nat) else ((tp n r).1, (tp n r).2.1, 0)) := ⟨_, rfl⟩
  have htk : Lab.take s = if s0.2.2 ≠ 0 then ([], [], s0.2.2) else if chk s0.1 = true then s0 else ([], [], 3) := by
   unfold Lab.take
   rw [hm]
   simp only
   rw [if_neg (by simp)]
   by_cases h2 : (tp n r).2.2 = 0
   ·rw [if_neg (by simp [h2])] at hs0
    subst hs0
    simp [h2]
   ·rw [if_pos h2] at hs0
    subst hs0
    simp [h2]
  have hst : TkS s0 n r 0 [] := by
   unfold TkS
   rw [if_pos rfl, hs0]
   rfl
  have HTK := Lib.hid htk
  have HST := Lib.hid hst
  have HN0 := Lib.hid (fun q => (NBuf.lit0 (below_draws w q) 146 2))
  clear hm hp htk hst hs0
  go_enter Tryz.func81, Tryz.ntmps81
  go_wp2_with fail
  refine (HM.out _ (by rw [bs_size]; unfold maxLen; omega) (by omega) (by omega)).mono ?_
  rintro e' w1 ⟨rfl, q, rfl⟩
  go_wp2_with fail
  go_loopw [8, 0, 7] (fun a b d wr => ∃ (k : Nat) (s' : List UInt8) (ps : List Pr), k ≤ n ∧ a = .int .i64 k ∧ b = .string (bs s') ∧ Hid (ps.length = k) ∧ s'.length ≤ s.length ∧ Hid (NBuf w wr 146 2 d k (pcs ps)) ∧ Hid (TkS s0 (n - k) s' 0 ps) ∧ Hid (∀ p ∈ ps, p.1.length ≤ s.length)) (fun a _ _ _ => n - (intOf a).toNat)
  case atStart => exact ⟨0, r, [], Nat.zero_le _, rfl, rfl, Lib.hid rfl, hrl, Lib.hid (HN0.out _), HST, Lib.hid (by simp)⟩
  case round =>
   clear HST hrl HN0
   obtain ⟨k, s', ps, hk, rfl, rfl, hps, hsl, hnb, hts, hpl⟩ := hrel
   obtain ⟨A, c, rfl, hc⟩ := hnb.out.buf.shape
   by_cases hgo : k < n
   ·obtain ⟨x, s1, e1, h1⟩ : ∃ a b c, takeText s' 40 = (a, b, c) := ⟨_, _, _, rfl⟩
    obtain ⟨y, s2, e2, h2⟩ : ∃ a b c, takeText s1 40 = (a, b, c) := ⟨_, _, _, rfl⟩
    have hl1 := takeText_len (by omega) h1
    have hl2 := takeText_len (by omega) h2
    have T1 := Lib.hid (refTakeText_of (bs s') 40 h1)
    have T2 := Lib.hid (refTakeText_of (bs s1) 40 h2)
    have hd : decide ((k : Int) < (n : Int)) = true := decide_eq_true (by omega)
    have hts1 := hts.out
    rw [show n - k = (n - (k + 1)) + 1 by omega] at hts1
    by_cases he1 : e1 = 0
    ·subst he1
     by_cases he2 : e2 = 0
     ·subst he2
      have HT2 := Lib.hid (hts1.step h1 h2)
      clear h1 h2 hts1
      go_wp2_with fail
      refine (T1.out _ (by rw [bs_size]; unfold maxLen; omega) (by omega) (by omega)).mono ?_
      rintro e' w2 ⟨rfl, q1, rfl⟩
      go_wp2_with fail
      refine (T2.out _ (by rw [bs_size]; unfold maxLen; omega) (by omega) (by omega)).mono ?_
      rintro e' w2 ⟨rfl, q2, rfl⟩
      have HN3 := Lib.hid (hnb.out.drewN (q1 + q2))
      go_wp2_with (at_builtin; refine wpList_append_nlit rfl (.tmp 49) (.tmp 53) 60 rfl rpair_ty rfl HN3.out rfl (by simp) rfl (by simp [Value.oneCell']) (by simp only [maxLen]; omega) (by omega) ?_; intro v3 w3 hn3 _; have HN4 := Lib.hid hn3; clear hn3 HN3)
      go_roundw
      case rel => exact ⟨k + 1, s2, ps ++ [(x, y)], by omega, by go_num, rfl, Lib.hid (by simp [hps.out]), by omega, by rw [pcs_snoc]; exact HN4, HT2, Lib.hid (fun p hp => by rw [List.mem_append, List.mem_singleton] at hp; rcases hp with hp | rfl; exact hpl.out p hp; exact Nat.le_trans hl1.1 hsl)⟩
      case measure => simp [intOf]; try omega
     ·have HTK2 := Lib.hid (show Lab.take s = ([], [], e2) by rw [HTK.out, hts1.bad2 h1 h2 he2]; simp [he2])
      have hb : ((e2 : Int) != 0) = true := by rw [bne_iff_ne]; omega
      clear h1 h2 hts1 he2
      go_wp2_with fail
      refine (T1.out _ (by rw [bs_size]; unfold maxLen; omega) (by omega) (by omega)).mono ?_
      rintro e' w2 ⟨rfl, q1, rfl⟩
      go_wp2_with fail
      refine (T2.out _ (by rw [bs_size]; unfold maxLen; omega) (by omega) (by omega)).mono ?_
      rintro e' w2 ⟨rfl, q2, rfl⟩
      go_wp2_with fail
      go_ret3
      exact ⟨_, _, _, _, HTK2.out, rfl, NBuf.nil (hnb.out.drewN (q1 + q2)).below _ _⟩
    ·have HTK2 := Lib.hid (show Lab.take s = ([], [], e1) by rw [HTK.out, hts1.bad1 h1 he1]; simp [he1])
     have hb : ((e1 : Int) != 0) = true := by rw [bne_iff_ne]; omega
     clear h1 h2 hts1 he1
     go_wp2_with fail
     refine (T1.out _ (by rw [bs_size]; unfold maxLen; omega) (by omega) (by omega)).mono ?_
     rintro e' w2 ⟨rfl, q1, rfl⟩
     go_wp2_with fail
     go_ret3
     exact ⟨_, _, _, _, HTK2.out, rfl, NBuf.nil (hnb.out.drewN q1).below _ _⟩
   ·obtain rfl : k = n := by omega
    have hts1 := hts.out
    rw [Nat.sub_self] at hts1
    have hs0 := hts1.end_
    obtain rfl : k = ps.length := hps.out.symm
    have hlk := rcheck_any6 _ ps wr hnb.out.slice (fun p hp => by have := hpl.out p hp; omega)
    by_cases hck : chk ps = true
    ·have HTK2 := Lib.hid (show Lab.take s = (ps, s', 0) by rw [HTK.out, hs0]; simp [hck])
     rw [hck] at hlk
     have HK := Lib.hid hlk
     clear hs0 hlk hck hts1 hgo
     go_wp2_with fail
     refine HK.out.mono ?_
     rintro e w2 ⟨rfl, hb⟩
     have HN4 := Lib.hid (hnb.out.then_below hb)
     clear hb
     go_wp2_with fail
     go_ret3
     exact ⟨_, _, _, _, HTK2.out, rfl, HN4.out⟩
    ·have HTK2 := Lib.hid (show Lab.take s = ([], [], 3) by rw [HTK.out, hs0]; simp [hck])
     rw [show chk ps = false by simpa using hck] at hlk
     have HK := Lib.hid hlk
     clear hs0 hlk hck hts1 hgo
     go_wp2_with fail
     refine HK.out.mono ?_
     rintro e w2 ⟨rfl, hb⟩
     have HN4 := Lib.hid (hnb.out.then_below hb)
     clear hb
     go_wp2_with fail
     go_ret3
     exact ⟨_, _, _, _, HTK2.out, rfl, NBuf.nil HN4.out.below _ _⟩
 ·have htk2 : Lab.take s = ([], [], e) := by unfold Lab.take; rw [hm]; simp [he]
  have HTK2 := Lib.hid htk2
  have hb : ((e : Int) == 0) = false := by rw [beq_eq_false_iff_ne]; omega
  have hb2 : ((e : Int) != 0) = true := by rw [bne_iff_ne]; omega
  have HN0 := Lib.hid (fun q => (NBuf.lit0 (below_draws w q) 146 2))
  clear htk2 he hp hm hrl
  rcases n with _ | n
  ·go_enter Tryz.func81, Tryz.ntmps81
   go_wp2_with fail
   refine (HM.out _ (by rw [bs_size]; unfold maxLen; omega) (by omega) (by omega)).mono ?_
   rintro e' w1 ⟨rfl, q, rfl⟩
   go_wp2_with fail
   go_loopw [8] (fun a wr => a = .int .i64 (0 : Nat) ∧ Hid (Below w.heap.size w wr)) (fun _ _ => 0)
   case atStart => exact ⟨rfl, Lib.hid (HN0.out q).below⟩
   case round =>
    obtain ⟨rfl, hbl⟩ := hrel
    go_wp2_with fail
    go_ret3
    exact ⟨_, _, _, _, HTK2.out, rfl, NBuf.nil hbl.out _ _⟩
  ·have h0 : decide (0 < ((n : Int) + 1)) = true := decide_eq_true (by omega)
   go_enter Tryz.func81, Tryz.ntmps81
   go_wp2_with fail
   refine (HM.out _ (by rw [bs_size]; unfold maxLen; omega) (by omega) (by omega)).mono ?_
   rintro e' w1 ⟨rfl, q, rfl⟩
   go_wp2_with fail
   go_loopw [8] (fun a wr => a = .int .i64 (0 : Nat) ∧ Hid (Below w.heap.size w wr)) (fun _ _ => 0)
   case atStart => exact ⟨rfl, Lib.hid (HN0.out q).below⟩
   case round =>
    obtain ⟨rfl, hbl⟩ := hrel
    go_wp2_with fail
    go_ret3
    exact ⟨_, _, _, _, HTK2.out, rfl, NBuf.nil hbl.out _ _⟩

end Go.Proofs.YtgabmfibfikdbaaGreatDoor

/-
 Layer 16: the walk of the reference's entry.
-/
namespace Go.Proofs.YtgabmfibfikdbaaGreatDoor
open Go.RowKit Go.Bar Go.Bar.Leb Go.Bar.Lab Go.Bar.Xor Go.Bar.Mrg Go.Bar.Met Go.Bar.Bok

theorem nint_ty : ElemTy Tryz.prog 171 3 (.int .i64 0) 1 8 :=
 ⟨Tryz.underlying171, info_parts (show (Tryz.prog.info? 3).map (fun i => (i.zero, i.size, i.bytes)) = some (some (.int .i64 0), 1, 8) by kernel_rfl), rfl⟩
def nvs (ns : List Nat) : List Value := ns.map fun n => .int .i64 (n : Nat)
theorem nvs_snoc (ns : List Nat) (q : Nat) : nvs (ns ++ [q]) = nvs ns ++ [.int .i64 (q : Nat)] := by unfold nvs; rw [List.map_append]; rfl
theorem mosts_at {k : Nat} (h : k < 4) : mosts.drop k = (if k ≤ 1 then 1048576 else 1099511627776) :: mosts.drop (k + 1) := by
 rcases (show k = 0 ∨ k = 1 ∨ k = 2 ∨ k = 3 by omega) with rfl | rfl | rfl | rfl <;> rfl

set_option maxHeartbeats 16000000 in
set_option maxRecDepth 10000 in
theorem rentry_any (s : List UInt8) (w : World) (hs : s.length ≤ 1000000000000) :
  Calls Tryz.prog 41 #[.string (bs s)] w (RetE 146 w (tEn s)) := by
 have htk := fun w => rtake_any s w hs
 have hsl := take_le s
 obtain ⟨R, hR⟩ : ∃ R, R = tEn s := ⟨_, rfl⟩
 rw [← hR]
 have HR := Lib.hid hR
 have HTK := Lib.hid htk
 clear htk hR
 have X1 := Blk.new w #[.slice none 0 0, .int .i64 0, .int .i64 0, .int .i64 0, .int .i64 0] 114
 have Y1 := Blk.new (w.alloc (.cells #[.slice none 0 0, .int .i64 0, .int .i64 0, .int .i64 0, .int .i64 0] 114)) #[.slice none 0 0, .int .i64 0, .int .i64 0, .int .i64 0, .int .i64 0] 114
 have b1 := below_trans (below_al w (.cells #[.slice none 0 0, .int .i64 0, .int .i64 0, .int .i64 0, .int .i64 0] 114)) (below_al _ (.cells #[.slice none 0 0, .int .i64 0, .int .i64 0, .int .i64 0, .int .i64 0] 114))
 have X1 := X1.alloc (.cells #[.slice none 0 0, .int .i64 0, .int .i64 0, .int .i64 0, .int .i64 0] 114)
 rw [show (w.alloc (.cells #[.slice none 0 0, .int .i64 0, .int .i64 0, .int .i64 0, .int .i64 0] 114)).heap.size = w.heap.size + 1 by simp] at Y1
 go_enter Tryz.func41, Tryz.ntmps41
 go_upto_region 2 with fail
 go_wp2_with fail
 refine (HTK.out _).mono ?_
 rintro e w2 ⟨v, l, r, c, htk, rfl, hnb⟩
 have X2 := X1.below hnb.below
 have Y2 := Y1.below hnb.below
 have hb2 := below_trans b1 hnb.below
 have hn2 := hnb.after b1
 obtain ⟨X, hX⟩ : ∃ X, X = w.heap.size := ⟨_, rfl⟩
 rw [← hX] at X2 Y2 ⊢
 have hXw : w.heap.size ≤ X := by omega
 have hYw : w.heap.size ≤ X + 1 := by omega
 rw [htk] at hsl
 dsimp only at hsl
 clear X1 Y1 b1 hnb HTK hX
 obtain ⟨vA, vc, rfl, hvc⟩ := hn2.buf.shape
 by_cases hc : c = 0
 ·subst hc
  have hbad : ∀ e2 : Nat, 0 < e2 → tN mosts r = ([], [], e2) → R = (En.z, [], e2) := fun e2 he hg => by
   rw [HR.out]
   unfold tEn
   rw [htk]
   simp only
   rw [if_neg (by omega), hg]
   simp only
   rw [if_pos (by omega)]
  have HBAD := Lib.hid hbad
  have hgood : ∀ (ns : List Nat) (r' : List UInt8), tN mosts r = (ns, r', 0) → R = if ns.getD 1 0 = 0 ∨ ns.getD 3 0 < ns.getD 2 0 then (En.z, [], 3) else (⟨l, ns.getD 0 0, ns.getD 1 0, ns.getD 2 0, ns.getD 3 0⟩, r', 0) := fun ns r' hg => by
   rw [HR.out]
   unfold tEn
   rw [htk]
   simp only
   rw [if_neg (by omega), hg]
   simp
  have HGOOD := Lib.hid hgood
  have HX2 := Lib.hid X2
  have HY2 := Lib.hid Y2
  have HL2 := Lib.hid hn2
  have HN2 := Lib.hid (NBuf.nil hb2 3 1)
  clear htk hbad hgood X2 Y2 hb2
  obtain ⟨NB, hNB⟩ : ∃ NB, NB = w2.heap.size := ⟨_, rfl⟩
  have HN3 := Lib.hid (NBuf.lit0 hn2.below 3 1)
  have hlit := below_al w2 (.cells #[] 3)
  have HX3 := Lib.hid (HX2.out.below hlit)
  have HY3 := Lib.hid (HY2.out.below hlit)
  have HL3 := Lib.hid (HL2.out.then_below hlit)
  go_upto_region 7 with fail
  obtain ⟨w3, hw3⟩ : ∃ w3, w3 = w2.alloc (.cells #[] 3) := ⟨_, rfl⟩
  rw [← hw3, ← hNB] at HN3
  rw [← hw3] at HX3 HY3 HL3
  rw [← hw3, ← hNB]
  clear hw3 HX2 HY2 HL2 HN2 hn2 hlit hNB
  go_loopw [10, 7, 9] (fun i sv nv wr => ∃ (k : Nat) (ns : List Nat) (r' : List UInt8), i = .int .i64 k ∧ k ≤ 4 ∧ Hid (ns.length = k) ∧ sv = .string (bs r') ∧ r'.length ≤ r.length ∧ Hid (NBuf w wr 3 1 nv k (nvs ns)) ∧ Hid (Blk wr X 114 #[.slice none 0 0, .int .i64 0, .int .i64 0, .int .i64 0, .int .i64 0]) ∧
   Hid (Blk wr (X + 1) 114 #[.slice none 0 0, .int .i64 0, .int .i64 0, .int .i64 0, .int .i64 0]) ∧ Hid (NBuf w wr 146 2 (.slice vA l.length vc) l.length (pcs l)) ∧ Hid (tN mosts r = glue ns (tN (mosts.drop k) r'))) (fun i _ _ _ => 4 - (intOf i).toNat)
  case atStart => exact ⟨0, [], r, rfl, by omega, Lib.hid rfl, rfl, Nat.le_refl _, HN3, HX3, HY3, HL3, Lib.hid (by rw [List.drop_zero, glue_nil])⟩
  case round =>
   obtain ⟨k, ns, r', rfl, hk, HNS, rfl, hrl, HN4, HX4, HY4, HL4, HG⟩ := hrel
   clear HX3 HY3 HN3 HL3
   obtain ⟨nA, nc, rfl, hnc⟩ := HN4.out.buf.shape
   rcases (show k ≤ 1 ∨ (2 ≤ k ∧ k < 4) ∨ k = 4 by omega) with hka | hka | rfl
   ·have hml : mosts.drop k = 1048576 :: mosts.drop (k + 1) := by rw [mosts_at (by omega), if_pos hka]
    have hk1 : ¬ (1 : Int) < (k : Int) := by omega
    have hk2 : (k : Int) < 4 := by omega
    obtain ⟨q, r2, e2, htm⟩ : ∃ q r2 e2, takeMost r' 1048576 = (q, r2, e2) := ⟨_, _, _, rfl⟩
    have hpr := (takeMost_prop r' 1048576 (by omega)).2.1
    rw [htm] at hpr
    have htc := fun w => refTakeMost_of (bs r') 1048576 htm w (by rw [bs_size]; unfold maxLen; omega) (by omega) (by omega)
    have HTC := Lib.hid htc
    have hgl := HG.out
    rw [hml] at hgl
    have HGL := Lib.hid hgl
    have HTM := Lib.hid htm
    dsimp only at hpr
    clear htc hgl htm HG hml
    go_wp2_with fail
    refine (HTC.out _).mono ?_
    rintro e w5 ⟨rfl, q5, rfl⟩
    have X5 := Lib.hid (HX4.out.drewN q5)
    have Y5 := Lib.hid (HY4.out.drewN q5)
    have N5 := Lib.hid (HN4.out.drewN q5)
    have L5 := Lib.hid (HL4.out.drewN q5)
    clear HX4 HY4 HN4 HL4 HTC
    rcases Nat.eq_zero_or_pos e2 with he | he
    ·subst he
     have hgs := glue_step (l := ns) (m := 1048576) (ms := mosts.drop (k + 1)) (s := r') (by rw [HTM.out])
     rw [HTM.out, ← HGL.out] at hgs
     have HGS := Lib.hid hgs
     clear hgs HGL HTM
     have hnb := N5.out
     go_wp2_with (at_builtin; refine wpList_append_nlit rfl (.tmp 44) (.tmp 46) 171 rfl nint_ty rfl hnb rfl (by simp) rfl (by simp [Value.oneCell']) (by simp only [maxLen]; omega) (by omega) ?_; intro v7 w7 hn7 ha7; have HAP := Lib.hid ha7; clear ha7)
     have hlit := below_al (wr.drewN q5) (.cells #[.int .i64 (q : Nat)] 3)
     have X6 := Lib.hid ((X5.out.below hlit).ap (hnb.buf.below hlit) HAP.out (by decide))
     have Y6 := Lib.hid ((Y5.out.below hlit).ap (hnb.buf.below hlit) HAP.out (by decide))
     have L6 := Lib.hid ((L5.out.then_below hlit).keep (hnb.then_below hlit) HAP.out (by decide))
     have N6 : Hid (NBuf w w7 3 1 v7 (k + 1) (nvs (ns ++ [q]))) := Lib.hid (by rw [nvs_snoc]; exact hn7)
     clear hn7 HAP hnb hlit
     go_roundw
     case rel => exact ⟨k + 1, ns ++ [q], r2, by go_num, by omega, Lib.hid (by rw [List.length_append, HNS.out]; rfl), rfl, by omega, N6, X6, Y6, L6, HGS⟩
     case measure => simp [intOf]; omega
    ·have hcz : ((e2 : Int) == 0) = false := by rw [beq_eq_false_iff_ne]; omega
     have hgb := glue_bad (l := ns) (m := 1048576) (ms := mosts.drop (k + 1)) (s := r') (by rw [HTM.out]; exact Nat.ne_of_gt he)
     rw [HTM.out, ← HGL.out] at hgb
     have HRES := Lib.hid (HBAD.out e2 he hgb)
     obtain ⟨x0, x1, x2, x3, x4⟩ := X5.out.c5
     obtain ⟨y0, y1, y2, y3, y4⟩ := Y5.out.c5
     have z0 := X5.out.free 0
     have z1 := X5.out.free 1
     have z2 := X5.out.free 2
     have z3 := X5.out.free 3
     have z4 := X5.out.free 4
     have HB := Lib.hid (((((L5.out.below.setCell hXw (.slice none 0 0) (p := ⟨X, 0, none⟩)).setCell hXw (.int .i64 0) (p := ⟨X, 1, none⟩)).setCell hXw (.int .i64 0) (p := ⟨X, 2, none⟩)).setCell hXw (.int .i64 0) (p := ⟨X, 3, none⟩)).setCell hXw (.int .i64 0) (p := ⟨X, 4, none⟩))
     clear hgb HGL HTM
     go_wp2_with fail
     refine bodyPost_ret (v := .tuple #[.agg #[.slice none 0 0, .int .i64 0, .int .i64 0, .int .i64 0, .int .i64 0], .string (bs []), .int .i64 (e2 : Nat)]) (by simp [results, Tryz.results41, go_sem, x0, x1, x2, x3, x4]; rfl) rfl ?_
     rw [HRES.out]
     exact RetE.no HB.out
   ·have hml : mosts.drop k = 1099511627776 :: mosts.drop (k + 1) := by rw [mosts_at (by omega), if_neg (by omega)]
    have hk1 : (1 : Int) < (k : Int) := by omega
    have hk2 : (k : Int) < 4 := by omega
    obtain ⟨q, r2, e2, htm⟩ : ∃ q r2 e2, takeMost r' 1099511627776 = (q, r2, e2) := ⟨_, _, _, rfl⟩
    have hpr := (takeMost_prop r' 1099511627776 (by omega)).2.1
    rw [htm] at hpr
    have htc := fun w => refTakeMost_of (bs r') 1099511627776 htm w (by rw [bs_size]; unfold maxLen; omega) (by omega) (by omega)
    have HTC := Lib.hid htc
    have hgl := HG.out
    rw [hml] at hgl
    have HGL := Lib.hid hgl
    have HTM := Lib.hid htm
    dsimp only at hpr
    clear htc hgl htm HG hml
    go_wp2_with fail
    refine (HTC.out _).mono ?_
    rintro e w5 ⟨rfl, q5, rfl⟩
    have X5 := Lib.hid (HX4.out.drewN q5)
    have Y5 := Lib.hid (HY4.out.drewN q5)
    have N5 := Lib.hid (HN4.out.drewN q5)
    have L5 := Lib.hid (HL4.out.drewN q5)
    clear HX4 HY4 HN4 HL4 HTC
    rcases Nat.eq_zero_or_pos e2 with he | he
    ·subst he
     have hgs := glue_step (l := ns) (m := 1099511627776) (ms := mosts.drop (k + 1)) (s := r') (by rw [HTM.out])
     rw [HTM.out, ← HGL.out] at hgs
     have HGS := Lib.hid hgs
     clear hgs HGL HTM
     have hnb := N5.out
     go_wp2_with (at_builtin; refine wpList_append_nlit rfl (.tmp 44) (.tmp 46) 171 rfl nint_ty rfl hnb rfl (by simp) rfl (by simp [Value.oneCell']) (by simp only [maxLen]; omega) (by omega) ?_; intro v7 w7 hn7 ha7; have HAP := Lib.hid ha7; clear ha7)
     have hlit := below_al (wr.drewN q5) (.cells #[.int .i64 (q : Nat)] 3)
     have X6 := Lib.hid ((X5.out.below hlit).ap (hnb.buf.below hlit) HAP.out (by decide))
     have Y6 := Lib.hid ((Y5.out.below hlit).ap (hnb.buf.below hlit) HAP.out (by decide))
     have L6 := Lib.hid ((L5.out.then_below hlit).keep (hnb.then_below hlit) HAP.out (by decide))
     have N6 : Hid (NBuf w w7 3 1 v7 (k + 1) (nvs (ns ++ [q]))) := Lib.hid (by rw [nvs_snoc]; exact hn7)
     clear hn7 HAP hnb hlit
     go_roundw
     case rel => exact ⟨k + 1, ns ++ [q], r2, by go_num, by omega, Lib.hid (by rw [List.length_append, HNS.out]; rfl), rfl, by omega, N6, X6, Y6, L6, HGS⟩
     case measure => simp [intOf]; omega
    ·have hcz : ((e2 : Int) == 0) = false := by rw [beq_eq_false_iff_ne]; omega
     have hgb := glue_bad (l := ns) (m := 1099511627776) (ms := mosts.drop (k + 1)) (s := r') (by rw [HTM.out]; exact Nat.ne_of_gt he)
     rw [HTM.out, ← HGL.out] at hgb
     have HRES := Lib.hid (HBAD.out e2 he hgb)
     obtain ⟨x0, x1, x2, x3, x4⟩ := X5.out.c5
     obtain ⟨y0, y1, y2, y3, y4⟩ := Y5.out.c5
     have z0 := X5.out.free 0
     have z1 := X5.out.free 1
     have z2 := X5.out.free 2
     have z3 := X5.out.free 3
     have z4 := X5.out.free 4
     have HB := Lib.hid (((((L5.out.below.setCell hXw (.slice none 0 0) (p := ⟨X, 0, none⟩)).setCell hXw (.int .i64 0) (p := ⟨X, 1, none⟩)).setCell hXw (.int .i64 0) (p := ⟨X, 2, none⟩)).setCell hXw (.int .i64 0) (p := ⟨X, 3, none⟩)).setCell hXw (.int .i64 0) (p := ⟨X, 4, none⟩))
     clear hgb HGL HTM
     go_wp2_with fail
     refine bodyPost_ret (v := .tuple #[.agg #[.slice none 0 0, .int .i64 0, .int .i64 0, .int .i64 0, .int .i64 0], .string (bs []), .int .i64 (e2 : Nat)]) (by simp [results, Tryz.results41, go_sem, x0, x1, x2, x3, x4]; rfl) rfl ?_
     rw [HRES.out]
     exact RetE.no HB.out
   ·obtain ⟨a, b, c, d, hns⟩ : ∃ a b c d, ns = [a, b, c, d] := by
     have h := HNS.out
     match ns, h with
     | [a, b, c, d], _ => exact ⟨a, b, c, d, rfl⟩
    subst hns
    have hRR : R = if b = 0 ∨ d < c then (En.z, [], 3) else (⟨l, (a : Nat), (b : Nat), (c : Nat), (d : Nat)⟩, r', 0) := HGOOD.out [a, b, c, d] r' (by rw [HG.out]; rfl)
    have HRR := Lib.hid hRR
    obtain ⟨nb, no, rfl, hnbw, hcl⟩ := HN4.out.slice.cells (by omega)
    have HC0 : Hid (∀ w', Below wr.heap.size wr w' → w'.cell? ⟨nb, no, none⟩ = some (.int .i64 (a : Nat))) := Lib.hid fun w' hb => (Below.cell hb hnbw).trans (hcl 0 _ rfl)
    have HC1 : Hid (∀ w', Below wr.heap.size wr w' → w'.cell? ⟨nb, no + 1, none⟩ = some (.int .i64 (b : Nat))) := Lib.hid fun w' hb => (Below.cell hb hnbw).trans (hcl 1 _ rfl)
    have HC2 : Hid (∀ w', Below wr.heap.size wr w' → w'.cell? ⟨nb, no + 2, none⟩ = some (.int .i64 (c : Nat))) := Lib.hid fun w' hb => (Below.cell hb hnbw).trans (hcl 2 _ rfl)
    have HC3 : Hid (∀ w', Below wr.heap.size wr w' → w'.cell? ⟨nb, no + 3, none⟩ = some (.int .i64 (d : Nat))) := Lib.hid fun w' hb => (Below.cell hb hnbw).trans (hcl 3 _ rfl)
    clear hRR hcl HG HGOOD HBAD
    go_upto_region 17 with fail
    by_cases hb0 : b = 0
    ·subst hb0
     have hRR := HRR.out
     rw [if_pos (.inl rfl)] at hRR
     have HRES := Lib.hid hRR
     clear hRR HRR
     refine wp_region_known [(2, .int .i64 0)] (by kernel_rfl) 78 (by kernel_rfl) rfl ?_
     repeat (first
      | (refine Chain.step (v := ?_) (a' := ?_) rfl rfl rfl ?_ ?_ ?_; rotate_left 2; (focus (intro w; go_simp; try with_reducible rfl)); focus (simp only [Act.put, pqA, pqS, pqZ]; try rfl))
      | (refine Chain.call (i := 2) (a' := ?_) _ rfl rfl rfl (fun wx hw => ?_) ?_ ?_; rotate_left 1; (focus (have g0 := HC1.out _ hw); (go_simp); (first | exact ⟨rfl, rB⟩ | exact rB)); focus (simp only [Act.put, pqA, pqS, pqZ]; try rfl))
      | (refine Chain.skip (a' := ?_) rfl rfl rfl ?_ ?_; rotate_left 1; focus (simp only [Act.put, pqA, pqS, pqZ]; try rfl)))
     refine Chain.end_ (fun wy hwy _ => ?_)
     obtain ⟨x0, x1, x2, x3, x4⟩ := (HX4.out.below hwy).c5
     obtain ⟨y0, y1, y2, y3, y4⟩ := (HY4.out.below hwy).c5
     have XF := HX4.out.below hwy
     have z0 := XF.free 0
     have z1 := XF.free 1
     have z2 := XF.free 2
     have z3 := XF.free 3
     have z4 := XF.free 4
     have HB := Lib.hid ((((((HL4.out.then_below hwy).below.setCell hXw (.slice none 0 0) (p := ⟨X, 0, none⟩)).setCell hXw (.int .i64 0) (p := ⟨X, 1, none⟩)).setCell hXw (.int .i64 0) (p := ⟨X, 2, none⟩)).setCell hXw (.int .i64 0) (p := ⟨X, 3, none⟩)).setCell hXw (.int .i64 0) (p := ⟨X, 4, none⟩))
     clear XF
     go_wp2_with fail
     refine bodyPost_ret (v := .tuple #[.agg #[.slice none 0 0, .int .i64 0, .int .i64 0, .int .i64 0, .int .i64 0], .string (bs []), .int .i64 3]) (by simp [results, Tryz.results41, go_sem, x0, x1, x2, x3, x4]; rfl) rfl ?_
     rw [HRES.out]
     exact RetE.no HB.out
    ·have hbz : ((b : Int) == 0) = false := by rw [beq_eq_false_iff_ne]; omega
     by_cases hcd : d < c
     ·have hRR := HRR.out
      rw [if_pos (.inr hcd)] at hRR
      have hd : decide ((d : Int) < (c : Int)) = true := decide_eq_true (by omega)
      have hd2 : (d : Int) < (c : Int) := by omega
      have HRES := Lib.hid hRR
      clear hcd hb0 hRR HRR
      refine wp_region_known [(2, .int .i64 (b : Nat)), (7, .int .i64 (c : Nat)), (10, .int .i64 (d : Nat))] (by kernel_rfl) 78 (by kernel_rfl) rfl ?_
      repeat (first
       | (refine Chain.step (v := ?_) (a' := ?_) rfl rfl rfl ?_ ?_ ?_; rotate_left 2; (focus (intro w; go_simp; try with_reducible rfl)); focus (simp only [Act.put, pqA, pqS, pqZ]; try rfl))
       | (refine Chain.call (i := 2) (a' := ?_) _ rfl rfl rfl (fun wx hw => ?_) ?_ ?_; rotate_left 1; (focus (have g0 := HC1.out _ hw); (go_simp); (first | exact ⟨rfl, rB⟩ | exact rB)); focus (simp only [Act.put, pqA, pqS, pqZ]; try rfl))
       | (refine Chain.call (i := 7) (a' := ?_) _ rfl rfl rfl (fun wx hw => ?_) ?_ ?_; rotate_left 1; (focus (have g0 := HC2.out _ hw); (go_simp); (first | exact ⟨rfl, rB⟩ | exact rB)); focus (simp only [Act.put, pqA, pqS, pqZ]; try rfl))
       | (refine Chain.call (i := 10) (a' := ?_) _ rfl rfl rfl (fun wx hw => ?_) ?_ ?_; rotate_left 1; (focus (have g0 := HC3.out _ hw); (go_simp); (first | exact ⟨rfl, rB⟩ | exact rB)); focus (simp only [Act.put, pqA, pqS, pqZ]; try rfl))
       | (refine Chain.skip (a' := ?_) rfl rfl rfl ?_ ?_; rotate_left 1; focus (simp only [Act.put, pqA, pqS, pqZ]; try rfl)))
      refine Chain.end_ (fun wy hwy _ => ?_)
      obtain ⟨x0, x1, x2, x3, x4⟩ := (HX4.out.below hwy).c5
      obtain ⟨y0, y1, y2, y3, y4⟩ := (HY4.out.below hwy).c5
      have XF := HX4.out.below hwy
      have z0 := XF.free 0
      have z1 := XF.free 1
      have z2 := XF.free 2
      have z3 := XF.free 3
      have z4 := XF.free 4
      have HB := Lib.hid ((((((HL4.out.then_below hwy).below.setCell hXw (.slice none 0 0) (p := ⟨X, 0, none⟩)).setCell hXw (.int .i64 0) (p := ⟨X, 1, none⟩)).setCell hXw (.int .i64 0) (p := ⟨X, 2, none⟩)).setCell hXw (.int .i64 0) (p := ⟨X, 3, none⟩)).setCell hXw (.int .i64 0) (p := ⟨X, 4, none⟩))
      clear XF
      go_wp2_with fail
      refine bodyPost_ret (v := .tuple #[.agg #[.slice none 0 0, .int .i64 0, .int .i64 0, .int .i64 0, .int .i64 0], .string (bs []), .int .i64 3]) (by simp [results, Tryz.results41, go_sem, x0, x1, x2, x3, x4]; rfl) rfl ?_
      rw [HRES.out]
      exact RetE.no HB.out
     ·have hRR := HRR.out
      rw [if_neg (by omega)] at hRR
      have hd : decide ((d : Int) < (c : Int)) = false := decide_eq_false (by omega)
      have hd2 : ¬ ((d : Int) < (c : Int)) := by omega
      have HRES := Lib.hid hRR
      clear hRR HRR
      refine wp_region_known [(2, .int .i64 (b : Nat)), (7, .int .i64 (c : Nat)), (10, .int .i64 (d : Nat))] (by kernel_rfl) 78 (by kernel_rfl) rfl ?_
      repeat (first
       | (refine Chain.step (v := ?_) (a' := ?_) rfl rfl rfl ?_ ?_ ?_; rotate_left 2; (focus (intro w; go_simp; try with_reducible rfl)); focus (simp only [Act.put, pqA, pqS, pqZ]; try rfl))
       | (refine Chain.call (i := 2) (a' := ?_) _ rfl rfl rfl (fun wx hw => ?_) ?_ ?_; rotate_left 1; (focus (have g0 := HC1.out _ hw); (go_simp); (first | exact ⟨rfl, rB⟩ | exact rB)); focus (simp only [Act.put, pqA, pqS, pqZ]; try rfl))
       | (refine Chain.call (i := 7) (a' := ?_) _ rfl rfl rfl (fun wx hw => ?_) ?_ ?_; rotate_left 1; (focus (have g0 := HC2.out _ hw); (go_simp); (first | exact ⟨rfl, rB⟩ | exact rB)); focus (simp only [Act.put, pqA, pqS, pqZ]; try rfl))
       | (refine Chain.call (i := 10) (a' := ?_) _ rfl rfl rfl (fun wx hw => ?_) ?_ ?_; rotate_left 1; (focus (have g0 := HC3.out _ hw); (go_simp); (first | exact ⟨rfl, rB⟩ | exact rB)); focus (simp only [Act.put, pqA, pqS, pqZ]; try rfl))
       | (refine Chain.skip (a' := ?_) rfl rfl rfl ?_ ?_; rotate_left 1; focus (simp only [Act.put, pqA, pqS, pqZ]; try rfl)))
      refine Chain.end_ (fun wy hwy _ => ?_)
      obtain ⟨x0, x1, x2, x3, x4⟩ := (HX4.out.below hwy).c5
      have X7 := HX4.out.below hwy
      have z0 := X7.free 0
      have z1 := X7.free 1
      have z2 := X7.free 2
      have z3 := X7.free 3
      have z4 := X7.free 4
      have u0 := HC0.out _ hwy
      have u1 := HC1.out _ hwy
      have u2 := HC2.out _ hwy
      have u3 := HC3.out _ hwy
      have HNF := Lib.hid ((((((HL4.out.then_below hwy).set_ne X7 (by decide) hXw 0 (.slice vA l.length vc)).set_ne (X7.set _ _) (by decide) hXw 1 (.int .i64 (a : Nat))).set_ne ((X7.set _ _).set _ _) (by decide) hXw 2 (.int .i64 (b : Nat))).set_ne (((X7.set _ _).set _ _).set _ _) (by decide) hXw 3 (.int .i64 (c : Nat))).set_ne ((((X7.set _ _).set _ _).set _ _).set _ _) (by decide) hXw 4 (.int .i64 (d : Nat)))
      clear X7 hb0 hcd
      go_upto_region 19 with fail
      go_region
      all_goals go_wp2_with fail
      all_goals refine bodyPost_ret (v := .tuple #[.agg #[.slice vA l.length vc, .int .i64 (a : Nat), .int .i64 (b : Nat), .int .i64 (c : Nat), .int .i64 (d : Nat)], .string (bs r'), .int .i64 0]) (by simp [results, Tryz.results41, go_sem, x0, x1, x2, x3, x4]) rfl ?_
      all_goals rw [HRES.out]
      all_goals exact ⟨⟨l, vA, vc, a, b, c, d⟩, rfl, rfl, HNF.out.drew⟩
 ·have hcz : ((c : Int) == 0) = false := by rw [beq_eq_false_iff_ne]; omega
  have hres : R = (En.z, [], c) := by
   rw [HR.out]
   unfold tEn
   rw [htk, if_pos hc]
  have HRES := Lib.hid hres
  obtain ⟨x0, x1, x2, x3, x4⟩ := X2.c5
  obtain ⟨y0, y1, y2, y3, y4⟩ := Y2.c5
  have z0 := X2.free 0
  have z1 := X2.free 1
  have z2 := X2.free 2
  have z3 := X2.free 3
  have z4 := X2.free 4
  have HB := Lib.hid (((((hb2.setCell hXw (.slice none 0 0) (p := ⟨X, 0, none⟩)).setCell hXw (.int .i64 0) (p := ⟨X, 1, none⟩)).setCell hXw (.int .i64 0) (p := ⟨X, 2, none⟩)).setCell hXw (.int .i64 0) (p := ⟨X, 3, none⟩)).setCell hXw (.int .i64 0) (p := ⟨X, 4, none⟩))
  clear htk hres X2 Y2 hn2 hb2 hc
  go_wp2_with fail
  refine bodyPost_ret (v := .tuple #[.agg #[.slice none 0 0, .int .i64 0, .int .i64 0, .int .i64 0, .int .i64 0], .string (bs []), .int .i64 (c : Nat)]) (by simp [results, Tryz.results41, go_sem, x0, x1, x2, x3, x4]; rfl) rfl ?_
  rw [HRES.out]
  exact RetE.no HB.out
end Go.Proofs.YtgabmfibfikdbaaGreatDoor
