/-
  Layer 7: XorReads: any bytes are samples, or refused.
-/
import Derived.Test.YtmoocomlcbalbaaDoorXorT
import Derived.Lib.LazyBuf
import Derived.Test.YtmoocomlcbalbaaDoorTie
import Derived.Test.YtmoocomlcbalbaaDoorCards
namespace Go.Proofs.YtmoocomlcbalbaaDoor
open Go.RowKit Go.Bar Go.Bar.Bit Go.Bar.Leb Go.Bar.Xor Go.ChangeShapes Go.WideShapes Go.ChangeAt
open Go.ChangeMaps (open_string shut_string)

theorem rtake_lt (L : List Bool) (a n : Nat) : (rtake L a n).1 < 2 ^ n := (rtake_bound (x := (rtake L a n).1) (b := (rtake L a n).2) rfl).1
theorem rin_lt {L : List Bool} {a fr wi : Nat} {R : Nat × Nat × Nat × Nat} (h : rin L a fr wi = some R) : R.1 < 18446744073709551616 := by
  unfold rin at h
  split at h
  · cases h
  · next hc =>
    injection h with h
    subst h
    have h1 := Nat.mul_lt_mul_of_pos_right (rtake_lt L a wi) (Nat.two_pow_pos (64 - fr - wi))
    rw [← Nat.pow_add] at h1
    have h2 : 2 ^ (wi + (64 - fr - wi)) ≤ 2 ^ 64 := Nat.pow_le_pow_right (by omega) (by omega)
    have h3 : (2 : Nat) ^ 64 = 18446744073709551616 := by decide
    show (rtake L a wi).1 * 2 ^ (64 - fr - wi) < _
    omega
theorem rval_lt {L : List Bool} {a fr wi : Nat} {R : Nat × Nat × Nat × Nat} (h : rval L a fr wi = some R) : R.1 < 18446744073709551616 := by
  unfold rval at h
  split at h
  · split at h
    · exact rin_lt h
    · exact rin_lt h
  · injection h with h
    subst h
    show 0 < _
    omega
theorem rloop_v (L : List Bool) : ∀ (k : Nat) (r : RS) (acc out : List Sm) (a : Nat), (∀ x ∈ acc, x.2 < 18446744073709551616) → rloop L k r acc = some (out, a) → ∀ x ∈ out, x.2 < 18446744073709551616
  | 0, r, acc, out, a, ha, h => by
    rw [rloop] at h
    injection h with h; injection h with h _
    subst h
    exact ha
  | k + 1, r, acc, out, a, ha, h => by
    have hsn : ∀ y : Sm, y.2 < 18446744073709551616 → ∀ x ∈ acc ++ [y], x.2 < 18446744073709551616 := fun y hy x hx => by
      rw [List.mem_append, List.mem_singleton] at hx
      rcases hx with hx | rfl
      · exact ha x hx
      · exact hy
    rw [rloop] at h
    split at h
    · split at h
      · refine rloop_v L k _ _ out a (hsn _ ?_) h
        have := rtake_lt L (rtake L r.a 41).2 64
        exact this
      · next was hw =>
        split at h
        · cases h
        · next x r' hr =>
          refine rloop_v L k r' _ out a (hsn _ ?_) h
          unfold rrest at hr
          split at hr
          · cases hr
          · next X b fr wi hv =>
            injection hr with hr; injection hr with hr _
            subst hr
            exact xor_lt (ha was (List.mem_of_getLast? hw)) (rval_lt hv)
    · injection h with h; injection h with h _
      subst h
      exact ha
theorem rsamples_v {w : List UInt8} {l : List Sm} (h : rsamples w = some l) : ∀ x ∈ l, x.2 < 18446744073709551616 := by
  unfold rsamples at h
  split at h
  · cases h
  split at h
  · cases h
  split at h
  · cases h
  unfold rbody rdone at h
  split at h
  · cases h
  · next out a ho =>
    split at h
    · cases h
    · injection h with h
      subst h
      exact rloop_v _ _ _ _ _ _ (by simp) ho

set_option maxHeartbeats 4000000 in
set_option maxRecDepth 10000 in
theorem xorReads_walk0 (s0 : ByteArray) (hs0 : s0.size ≤ maxLen) (w : World) (hW : WidthsAt w) :
    Calls Tryd.prog 3 #[.string s0] w (RetBelow w (.bool true)) := by
  obtain ⟨l, hl⟩ : ∃ l, l = s0.data.toList.take 200 := ⟨_, rfl⟩
  have hll : l.length ≤ 200 := by rw [hl]; exact List.length_take_le _ _
  have HCU := Lib.hid (fun w => (show Calls Tryd.prog 10 #[.string s0, .int .i64 200] w fun e w' => e = .returned (.string (bs l)) ∧ w = w' by rw [hl]; exact cut_any s0 200 w (by omega) (by omega) hs0))
  have HSA := Lib.hid (samples_any l w hW (by omega))
  have HRS := Lib.hid (fun w => rsamples_any l w (by omega))
  have HAW := Lib.hid (fun w hW => awake7_any w hW)
  have hp := samplesR_prop l
  have hrs := @rsamples_some l
  obtain ⟨q1, q2, hq⟩ : ∃ a b, samplesR l = (a, b) := ⟨_, _, rfl⟩
  rw [hq] at HSA hp
  simp only at hp
  rcases hp with ⟨rfl, h1, h2, h3⟩ | ⟨rfl, h1⟩
  · have hr : rsamples l = some q1 := by
      have := rsamples_of (l := q1) (s := (ofS St.zero q1).1) (by rw [← h1]) h3
      rw [h2] at this
      exact this
    rw [hr] at HRS
    have HSM := Lib.hid (fun v u w h h' => same_any q1 v u w h h')
    clear hl hq hrs hr h1 h2 h3
    go_enter Tryd.func3, Tryd.ntmps3
    go_wp2_with fail
    refine (HCU.out _).mono ?_
    rintro e w' ⟨rfl, rfl⟩
    go_wp2_with fail
    refine HSA.out.mono ?_
    rintro e w1 ⟨v, rfl, _, hF, hb1⟩
    have hF := (hF rfl).slice
    have HF := Lib.hid (show SmsAt w1 v q1 from hF)
    have HB1 := Lib.hid hb1
    clear hF hb1
    go_wp2_with fail
    refine (HRS.out _).mono ?_
    rintro e w2 ⟨u, rfl, _, hU, hb2⟩
    have HU := Lib.hid (hU q1 rfl)
    have HF2 := Lib.hid (HF.out.below hb2)
    have HB2 := Lib.hid (below_trans HB1.out hb2)
    clear hU hb2
    go_wp2_with fail
    refine (HAW.out _ (hW.below HB2.out)).mono ?_
    rintro e w3 ⟨rfl, hb3⟩
    have HU3 := Lib.hid (HU.out.below hb3)
    have HF3 := Lib.hid (HF2.out.below hb3)
    have HB3 := Lib.hid (below_trans HB2.out hb3)
    clear hb3
    go_wp2_with fail
    refine (HSM.out _ _ _ HF3.out HU3.out).mono ?_
    rintro e w4 ⟨rfl, hb4⟩
    have HB4 := Lib.hid (below_trans HB3.out hb4)
    clear hb4
    go_wp2_with fail
    go_ret
    exact ⟨rfl, HB4.out⟩
  · have hr : rsamples l = none := by
      rcases hx : rsamples l with _ | m
      · rfl
      · exfalso
        have hv := rsamples_v hx
        obtain ⟨g1, g2⟩ := hrs hx
        have := samplesR_of (l := m) (s := (ofS St.zero m).1) (by rw [← g1]) hv
        rw [g2, hq] at this
        injection this with _ this
        omega
    rw [hr] at HRS
    have hcs : q2 = 2 ∨ q2 = 3 ∨ q2 = 16 := h1
    have hq0 : q2 ≠ 0 := by omega
    have HQ0 := Lib.hid hq0
    clear hl hq hrs hr h1 hq0
    rcases hcs with rfl | rfl | rfl
    all_goals
      go_enter Tryd.func3, Tryd.ntmps3
      go_wp2_with fail
      refine (HCU.out _).mono ?_
      rintro e w' ⟨rfl, rfl⟩
      go_wp2_with fail
      refine HSA.out.mono ?_
      rintro e w1 ⟨v, rfl, hv, _, hb1⟩
      obtain rfl := hv HQ0.out
      have HB1 := Lib.hid hb1
      clear hv hb1
      go_wp2_with fail
      refine (HRS.out _).mono ?_
      rintro e w2 ⟨u, rfl, hu, _, hb2⟩
      obtain rfl := hu rfl
      have HB2 := Lib.hid (below_trans HB1.out hb2)
      clear hu hb2
      go_wp2_with fail
      refine (HAW.out _ (hW.below HB2.out)).mono ?_
      rintro e w3 ⟨rfl, hb3⟩
      have HB3 := Lib.hid (below_trans HB2.out hb3)
      clear hb3
      have hnil := fun w => run_eql_slice_nil (P := Tryd.prog) w 23 38 none 0 0 Tryd.underlying23
      go_wp2_with fail
      go_ret
      exact ⟨rfl, HB3.out⟩

set_option maxRecDepth 100000 in
theorem xorReads_lifted (os : Os) (started : os.Started) (H : Type) (enc : TypeId × Value → H) :
    ReturnsInHanded {} Tryd.checked os 3 .any (fun w args => (Rows.xorReadsSpec.pre enc Tryd.prog Tryd.f3 [] false w args ∧ laidMetH Tryd.prog [("barograph/xor.widths", Rows.laid_barograph_xor_widths)] w) ∧ sizedMet enc Tryd.prog Tryd.f3 (OpenSpec.ofChange Rows.xorReadsSpec) false w args)
      (Rows.xorReadsSpec.post enc Tryd.prog Tryd.f3 false true false false) := by
  refine returnsInHanded_of_change_and (C := Tryd.checked) (X := fun w _ => laidMetH Tryd.prog [("barograph/xor.widths", Rows.laid_barograph_xor_widths)] w) (fun _ _ _ hh h => h.of_heap hh) law_own started (by kernel_rfl) Tryd.func3
    (ChangeSpec.witness_shaped (enc := enc) (C := Tryd.checked) (os := os) (X := fun w _ => laidMetH Tryd.prog [("barograph/xor.widths", Rows.laid_barograph_xor_widths)] w) false (World.doorLaid Tryd.prog 400 os) #[.string ByteArray.empty] 8 rfl (World.shaped_of_RefB (by kernel_rfl) (by kernel_rfl)) (by kernel_rfl) (by kernel_rfl) (by kernel_rfl) (door_met os _)) ?_
  intro W base args ds gs before hval0 hW _ _ hL _
  have hval : ∀ (j : Nat) t v, Tryd.f3.params[j]? = some t → args[j]? = some v → Value.okWide Tryd.prog W .any base t v := hval0
  have hW' := hW
  obtain ⟨p, q, hA0, hV, rfl, _, _⟩ := hW
  have hA : DataW.TrodAll enc Tryd.prog W 0 (fun _ => true) true Tryd.f3.params.toList args.toList ds p := hA0
  rw [Tryd.params3] at hA hval
  obtain ⟨v0, vs0, d0, ds0, p0, q0, hargs, rfl, rfl, h0, r0⟩ := trodAll_cons hA
  obtain ⟨rfl, rfl, rfl⟩ := trodAll_nil r0
  obtain rfl : args = #[v0] := by cases args; simp_all
  obtain ⟨rfl, rfl⟩ := trodVars_none hV
  obtain ⟨a0, rfl, rfl, rfl, w0⟩ := open_string Tryd.underlying9 (hval 0 9 v0 rfl rfl) h0
  refine (xorReads_walk0 a0 w0 W  (of_laid hL)).mono fun e W' ⟨he, hb⟩ => ?_
  subst he
  exact ⟨_, rfl, law_post law_laid (by intro t ht; rw [Tryd.params3] at ht; simp only [List.mem_cons, List.not_mem_nil, or_false] at ht; rcases ht with rfl <;> exact ⟨by kernel_rfl, of_decide_eq_true (by kernel_rfl)⟩) rfl Tryd.underlying4 rfl rfl hW' hb⟩

theorem xorReads_holds : Rows.XorReadsSaid :=
  OpenClaim.holds_of_wide 3 Tryd.f3 rfl rfl rfl rfl rfl rfl rfl ⟨rfl, rfl, rfl, rfl, rfl⟩ rfl rfl rfl rfl rfl (by kernel_rfl) Tryd.func3 (by kernel_rfl)
    (of_decide_eq_true (by kernel_rfl)) (by unfold Func.isWrapper; first | (rw [if_pos (by decide +kernel)]; kernel_rfl) | (rw [if_neg (by decide +kernel)]; exact ⟨rfl, rfl⟩))
    (fun os started H enc _ => xorReads_lifted os started H enc)

theorem xorReads_card : Rows.XorReadsCardSaid :=
  Claim7.holds_tied_plain_at .later [] [.data] true (true, "95000c4295daf2b88b1a54d2cd38bdaca7f9c46c35c6ea7a8bec2a7142dbed1d") false
    xorReads_holds (fun _ h => by cases h) (by kernel_rfl) (fun _ h => by cases h) xorReads_row_tie rfl ⟨rfl, rfl⟩ (by kernel_rfl) rfl
    (fun f fn hf hfn => by
      obtain rfl : f = 3 := Option.some.inj ((show Tryd.prog.funcNamed "barograph/barographlaw07.XorReads" = some 3 by kernel_rfl).symm.trans hf) |>.symm
      obtain rfl : fn = Tryd.f3 := (Option.some.inj (Tryd.func3.symm.trans hfn)).symm
      exact ⟨by kernel_rfl, fun j t ht => by
        rw [Tryd.params3] at ht
        rcases j with _ | j
        · obtain rfl : t = 9 := by simpa using ht.symm
          exact (show Tryd.prog.wantsStandIn 9 = false by kernel_rfl)
        simp at ht⟩)
    (by kernel_rfl)

end Go.Proofs.YtmoocomlcbalbaaDoor
