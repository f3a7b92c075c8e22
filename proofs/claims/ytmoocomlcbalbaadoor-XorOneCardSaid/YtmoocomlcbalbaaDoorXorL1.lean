/-
  Layer 7: XorOne: bytes that are samples are theirs: there is one spelling.
-/
import Derived.Test.YtmoocomlcbalbaaDoorXorL
import Derived.Test.YtmoocomlcbalbaaDoorCut
import Derived.Test.YtmoocomlcbalbaaDoorRows
import Derived.Test.YtmoocomlcbalbaaDoorTie
import Derived.Test.YtmoocomlcbalbaaDoorCards
namespace Go.Proofs.YtmoocomlcbalbaaDoor
open Go.RowKit Go.Bar Go.Bar.Bit Go.Bar.Leb Go.Bar.Xor Go.ChangeShapes Go.WideShapes Go.ChangeAt
open Go.ChangeMaps (open_string shut_string)

set_option maxHeartbeats 4000000 in
set_option maxRecDepth 10000 in
theorem xorOne_walk0 (s0 : ByteArray) (hs0 : s0.size ≤ maxLen) (w : World) (hW : WidthsAt w) :
    Calls Tryd.prog 5 #[.string s0] w (RetBelow w (.bool true)) := by
  obtain ⟨l, hl⟩ : ∃ l, l = s0.data.toList.take 200 := ⟨_, rfl⟩
  have hll : l.length ≤ 200 := by rw [hl]; exact List.length_take_le _ _
  have HCU := Lib.hid (fun w => (show Calls Tryd.prog 10 #[.string s0, .int .i64 200] w fun e w' => e = .returned (.string (bs l)) ∧ w = w' by rw [hl]; exact cut_any s0 200 w (by omega) (by omega) hs0))
  have HSA := Lib.hid (samples_any l w hW (by omega))
  have HAW := Lib.hid (fun w hW => awake7_any w hW)
  have hp := samplesR_prop l
  obtain ⟨q1, q2, hq⟩ : ∃ a b, samplesR l = (a, b) := ⟨_, _, rfl⟩
  rw [hq] at HSA hp
  clear hl hq
  simp only at hp
  rcases hp with ⟨rfl, h1, h2, h3⟩ | ⟨rfl, h1⟩
  · have HOF := Lib.hid (fun v w' (h : SmsAt w' v q1) hW => (show Calls Tryd.prog 16 #[v] w' (RetBelow w' (.tuple #[.string (bs l), .int .i64 0])) by
      have := of_any q1 v w' h hW h3
      rw [ofTx_ok h1, h1, h2] at this
      exact this))
    clear h1 h2 h3
    go_enter Tryd.func5, Tryd.ntmps5
    go_wp2_with fail
    refine (HCU.out _).mono ?_
    rintro e w' ⟨rfl, rfl⟩
    go_wp2_with fail
    refine HSA.out.mono ?_
    rintro e w1 ⟨v, rfl, _, hF, hb1⟩
    have hF := (hF rfl).slice
    have HF := Lib.hid hF
    obtain ⟨A, c, rfl, _⟩ := SmsAt.shape hF
    have HB1 := Lib.hid hb1
    clear hF hb1
    go_wp2_with fail
    refine (HOF.out _ _ HF.out (hW.below HB1.out)).mono ?_
    rintro e w2 ⟨rfl, hb2⟩
    have HB2 := Lib.hid (below_trans HB1.out hb2)
    clear hb2
    go_wp2_with fail
    refine (HAW.out _ (hW.below HB2.out)).mono ?_
    rintro e w3 ⟨rfl, hb3⟩
    have HB3 := Lib.hid (below_trans HB2.out hb3)
    clear hb3
    go_wp2_with fail
    go_ret
    exact ⟨rfl, HB3.out⟩
  · have hb : (((q2 : Nat) : Int) != 0) = true := by rw [bne_iff_ne]; omega
    have hq0 : q2 ≠ 0 := by omega
    have HQ0 := Lib.hid hq0
    clear h1 hq0
    go_enter Tryd.func5, Tryd.ntmps5
    go_wp2_with fail
    refine (HCU.out _).mono ?_
    rintro e w' ⟨rfl, rfl⟩
    go_wp2_with fail
    refine HSA.out.mono ?_
    rintro e w1 ⟨v, rfl, hv, _, hb1⟩
    obtain rfl := hv HQ0.out
    have HB1 := Lib.hid hb1
    clear hv hb1
    go_wp2_with fail
    refine (HAW.out _ (hW.below HB1.out)).mono ?_
    rintro e w3 ⟨rfl, hb3⟩
    have HB3 := Lib.hid (below_trans HB1.out hb3)
    clear hb3
    go_wp2_with fail
    go_ret
    exact ⟨rfl, HB3.out⟩

set_option maxRecDepth 100000 in
theorem xorOne_lifted (os : Os) (started : os.Started) (H : Type) (enc : TypeId × Value → H) :
    ReturnsInHanded {} Tryd.checked os 5 .any (fun w args => (Rows.xorOneSpec.pre enc Tryd.prog Tryd.f5 [] false w args ∧ laidMetH Tryd.prog [("barograph/xor.widths", Rows.laid_barograph_xor_widths)] w) ∧ sizedMet enc Tryd.prog Tryd.f5 (OpenSpec.ofChange Rows.xorOneSpec) false w args)
      (Rows.xorOneSpec.post enc Tryd.prog Tryd.f5 false true false false) := by
  refine returnsInHanded_of_change_and (C := Tryd.checked) (X := fun w _ => laidMetH Tryd.prog [("barograph/xor.widths", Rows.laid_barograph_xor_widths)] w) (fun _ _ _ hh h => h.of_heap hh) law_own started (by kernel_rfl) Tryd.func5
    (ChangeSpec.witness_shaped (enc := enc) (C := Tryd.checked) (os := os) (X := fun w _ => laidMetH Tryd.prog [("barograph/xor.widths", Rows.laid_barograph_xor_widths)] w) false (World.doorLaid Tryd.prog 400 os) #[.string ByteArray.empty] 8 rfl (World.shaped_of_RefB (by kernel_rfl) (by kernel_rfl)) (by kernel_rfl) (by kernel_rfl) (by kernel_rfl) (door_met os _)) ?_
  intro W base args ds gs before hval0 hW _ _ hL _
  have hval : ∀ (j : Nat) t v, Tryd.f5.params[j]? = some t → args[j]? = some v → Value.okWide Tryd.prog W .any base t v := hval0
  have hW' := hW
  obtain ⟨p, q, hA0, hV, rfl, _, _⟩ := hW
  have hA : DataW.TrodAll enc Tryd.prog W 0 (fun _ => true) true Tryd.f5.params.toList args.toList ds p := hA0
  rw [Tryd.params5] at hA hval
  obtain ⟨v0, vs0, d0, ds0, p0, q0, hargs, rfl, rfl, h0, r0⟩ := trodAll_cons hA
  obtain ⟨rfl, rfl, rfl⟩ := trodAll_nil r0
  obtain rfl : args = #[v0] := by cases args; simp_all
  obtain ⟨rfl, rfl⟩ := trodVars_none hV
  obtain ⟨a0, rfl, rfl, rfl, w0⟩ := open_string Tryd.underlying9 (hval 0 9 v0 rfl rfl) h0
  refine (xorOne_walk0 a0 w0 W  (of_laid hL)).mono fun e W' ⟨he, hb⟩ => ?_
  subst he
  exact ⟨_, rfl, law_post law_laid (by intro t ht; rw [Tryd.params5] at ht; simp only [List.mem_cons, List.not_mem_nil, or_false] at ht; rcases ht with rfl <;> exact ⟨by kernel_rfl, of_decide_eq_true (by kernel_rfl)⟩) rfl Tryd.underlying4 rfl rfl hW' hb⟩

theorem xorOne_holds : Rows.XorOneSaid :=
  OpenClaim.holds_of_wide 5 Tryd.f5 rfl rfl rfl rfl rfl rfl rfl ⟨rfl, rfl, rfl, rfl, rfl⟩ rfl rfl rfl rfl rfl (by kernel_rfl) Tryd.func5 (by kernel_rfl)
    (of_decide_eq_true (by kernel_rfl)) (by unfold Func.isWrapper; first | (rw [if_pos (by decide +kernel)]; kernel_rfl) | (rw [if_neg (by decide +kernel)]; exact ⟨rfl, rfl⟩))
    (fun os started H enc _ => xorOne_lifted os started H enc)

theorem xorOne_card : Rows.XorOneCardSaid :=
  Claim7.holds_tied_plain_at .later [] [.data] true (true, "95000c4295daf2b88b1a54d2cd38bdaca7f9c46c35c6ea7a8bec2a7142dbed1d") false
    xorOne_holds (fun _ h => by cases h) (by kernel_rfl) (fun _ h => by cases h) xorOne_row_tie rfl ⟨rfl, rfl⟩ (by kernel_rfl) rfl
    (fun f fn hf hfn => by
      obtain rfl : f = 5 := Option.some.inj ((show Tryd.prog.funcNamed "barograph/barographlaw07.XorOne" = some 5 by kernel_rfl).symm.trans hf) |>.symm
      obtain rfl : fn = Tryd.f5 := (Option.some.inj (Tryd.func5.symm.trans hfn)).symm
      exact ⟨by kernel_rfl, fun j t ht => by
        rw [Tryd.params5] at ht
        rcases j with _ | j
        · obtain rfl : t = 9 := by simpa using ht.symm
          exact (show Tryd.prog.wantsStandIn 9 = false by kernel_rfl)
        simp at ht⟩)
    (by kernel_rfl)

end Go.Proofs.YtmoocomlcbalbaaDoor
