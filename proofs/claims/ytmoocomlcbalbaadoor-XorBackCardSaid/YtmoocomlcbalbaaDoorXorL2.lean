/-
  Layer 7: XorBack: samples go as bytes, and come back.
-/
import Derived.Test.YtmoocomlcbalbaaDoorXorP
import Derived.Test.YtmoocomlcbalbaaDoorTie
import Derived.Test.YtmoocomlcbalbaaDoorCards
namespace Go.Proofs.YtmoocomlcbalbaaDoor
open Go.RowKit Go.Bar Go.Bar.Bit Go.Bar.Leb Go.Bar.Xor Go.ChangeShapes Go.WideShapes Go.ChangeAt
open Go.ChangeMaps (open_string shut_string)

set_option maxHeartbeats 4000000 in
set_option maxRecDepth 10000 in
theorem xorBack_walk0 (v : Value) (l : List Sm) (w : World) (h : SmsArg w v l) (hW : WidthsAt w) :
    Calls Tryd.prog 4 #[v] w (RetBelow w (.bool true)) := by
  obtain ⟨s, hs⟩ := riseL_good l (fun x hx => (h.2 x hx).1)
  have hv := rise_v (l.take 20) 0 (fun x hx => (h.2 x (List.mem_of_mem_take hx)).1)
  have hl := riseL_length l
  have hok : s.Ok := by
    have := ofS_ok (riseL l) St.zero St.zero_ok hv
    rw [hs] at this
    exact this
  have htl : (text s).length ≤ 100000 := by
    unfold text
    have h1 := u_len s.n (by have := hok.n; omega)
    have h2 := u_len s.bits.length (by have := hok.len; have := hok.n; omega)
    have h3 := pack_length s.bits
    have h4 := hok.len
    have h5 := hok.n
    simp only [List.length_append]; omega
  have hsa := samplesR_of hs hv
  have HRI := Lib.hid (rise_any l v w h)
  obtain ⟨r, hr⟩ : ∃ r, r = riseL l := ⟨_, rfl⟩
  have hv' : ∀ x ∈ r, x.2 < 18446744073709551616 := by rw [hr]; exact hv
  rw [← hr] at hs hsa HRI hl
  obtain ⟨tx, htx⟩ : ∃ tx, tx = text s := ⟨_, rfl⟩
  have HOF := Lib.hid (fun v w' (h : SmsAt w' v r) hW => (show Calls Tryd.prog 16 #[v] w' (RetBelow w' (.tuple #[.string (bs tx), .int .i64 0])) by
    have := of_any r v w' h hW hv'
    rw [hs, ofTx_ok rfl] at this
    rw [htx]
    exact this))
  have HSA := Lib.hid (fun w' hW => (show Calls Tryd.prog 11 #[.string (bs tx)] w' (RetSm w' (r, 0)) by
    rw [← hsa, ← htx]
    exact samples_any tx w' hW (by rw [htx]; omega)))
  have HAW := Lib.hid (fun w hW => awake7_any w hW)
  have HSM := Lib.hid (fun v u w h h' => same_any r v u w h h')
  obtain ⟨A, c, rfl, _⟩ := h.1.shape
  clear hs hsa hv hr hok htl htx hv' h hl
  go_enter Tryd.func4, Tryd.ntmps4
  go_wp2_with fail
  refine HRI.out.mono ?_
  rintro e w1 ⟨v1, rfl, hF1, hb1⟩
  obtain ⟨A1, c1, rfl, _⟩ := hF1.buf.shape
  have HF1 := Lib.hid (show SmsAt w1 _ r from hF1.slice)
  have HB1 := Lib.hid hb1
  clear hF1 hb1
  go_wp2_with fail
  refine (HOF.out _ _ HF1.out (hW.below HB1.out)).mono ?_
  rintro e w2 ⟨rfl, hb2⟩
  have HF2 := Lib.hid (HF1.out.below hb2)
  have HB2 := Lib.hid (below_trans HB1.out hb2)
  clear hb2
  go_wp2_with fail
  refine (HSA.out _ (hW.below HB2.out)).mono ?_
  rintro e w3 ⟨v3, rfl, _, hF3, hb3⟩
  have hF3 := (hF3 rfl).slice
  have HF3 := Lib.hid (show SmsAt w3 _ r from hF3)
  obtain ⟨A3, c3, rfl, _⟩ := SmsAt.shape hF3
  have HF4 := Lib.hid (HF2.out.below hb3)
  have HB3 := Lib.hid (below_trans HB2.out hb3)
  clear hb3 hF3
  go_wp2_with fail
  refine (HAW.out _ (hW.below HB3.out)).mono ?_
  rintro e w4 ⟨rfl, hb4⟩
  have HF5 := Lib.hid (HF3.out.below hb4)
  have HF6 := Lib.hid (HF4.out.below hb4)
  have HB4 := Lib.hid (below_trans HB3.out hb4)
  clear hb4
  go_wp2_with fail
  refine (HSM.out _ _ _ HF5.out HF6.out).mono ?_
  rintro e w5 ⟨rfl, hb5⟩
  have HB5 := Lib.hid (below_trans HB4.out hb5)
  clear hb5
  go_wp2_with fail
  go_ret
  exact ⟨rfl, HB5.out⟩

set_option maxRecDepth 100000 in
theorem xorBack_lifted (os : Os) (started : os.Started) (H : Type) (enc : TypeId × Value → H) :
    ReturnsInHanded {} Tryd.checked os 4 .any (fun w args => (Rows.xorBackSpec.pre enc Tryd.prog Tryd.f4 [] false w args ∧ laidMetH Tryd.prog [("barograph/xor.widths", Rows.laid_barograph_xor_widths)] w) ∧ sizedMet enc Tryd.prog Tryd.f4 (OpenSpec.ofChange Rows.xorBackSpec) false w args)
      (Rows.xorBackSpec.post enc Tryd.prog Tryd.f4 false true false false) := by
  refine returnsInHanded_of_change_and (C := Tryd.checked) (X := fun w _ => laidMetH Tryd.prog [("barograph/xor.widths", Rows.laid_barograph_xor_widths)] w) (fun _ _ _ hh h => h.of_heap hh) law_own started (by kernel_rfl) Tryd.func4
    (ChangeSpec.witness_shaped (enc := enc) (C := Tryd.checked) (os := os) (X := fun w _ => laidMetH Tryd.prog [("barograph/xor.widths", Rows.laid_barograph_xor_widths)] w) false (World.doorLaid Tryd.prog 400 os) #[.slice none 0 0] 8 rfl (World.shaped_of_RefB (by kernel_rfl) (by kernel_rfl)) (by kernel_rfl) (by kernel_rfl) (by kernel_rfl) (door_met os _)) ?_
  intro W base args ds gs before hval0 hW _ _ hL _
  have hval : ∀ (j : Nat) t v, Tryd.f4.params[j]? = some t → args[j]? = some v → Value.okWide Tryd.prog W .any base t v := hval0
  have hW' := hW
  obtain ⟨p, q, hA0, hV, rfl, _, _⟩ := hW
  have hA : DataW.TrodAll enc Tryd.prog W 0 (fun _ => true) true Tryd.f4.params.toList args.toList ds p := hA0
  rw [Tryd.params4] at hA hval
  obtain ⟨v0, vs0, d0, ds0, p0, q0, hargs, rfl, rfl, h0, r0⟩ := trodAll_cons hA
  obtain ⟨rfl, rfl, rfl⟩ := trodAll_nil r0
  obtain rfl : args = #[v0] := by cases args; simp_all
  obtain ⟨rfl, rfl⟩ := trodVars_none hV
  obtain ⟨ts0, hts0⟩ := open_sms (hval 0 23 v0 rfl rfl) h0
  refine (xorBack_walk0 v0 ts0 W hts0 (of_laid hL)).mono fun e W' ⟨he, hb⟩ => ?_
  subst he
  exact ⟨_, rfl, law_post law_laid (by intro t ht; rw [Tryd.params4] at ht; simp only [List.mem_cons, List.not_mem_nil, or_false] at ht; rcases ht with rfl <;> exact ⟨by kernel_rfl, of_decide_eq_true (by kernel_rfl)⟩) rfl Tryd.underlying4 rfl rfl hW' hb⟩

theorem xorBack_holds : Rows.XorBackSaid :=
  OpenClaim.holds_of_wide 4 Tryd.f4 rfl rfl rfl rfl rfl rfl rfl ⟨rfl, rfl, rfl, rfl, rfl⟩ rfl rfl rfl rfl rfl (by kernel_rfl) Tryd.func4 (by kernel_rfl)
    (of_decide_eq_true (by kernel_rfl)) (by unfold Func.isWrapper; first | (rw [if_pos (by decide +kernel)]; kernel_rfl) | (rw [if_neg (by decide +kernel)]; exact ⟨rfl, rfl⟩))
    (fun os started H enc _ => xorBack_lifted os started H enc)

theorem xorBack_card : Rows.XorBackCardSaid :=
  Claim7.holds_tied_plain_at .later [] [.data] true (true, "95000c4295daf2b88b1a54d2cd38bdaca7f9c46c35c6ea7a8bec2a7142dbed1d") false
    xorBack_holds (fun _ h => by cases h) (by kernel_rfl) (fun _ h => by cases h) xorBack_row_tie rfl ⟨rfl, rfl⟩ (by kernel_rfl) rfl
    (fun f fn hf hfn => by
      obtain rfl : f = 4 := Option.some.inj ((show Tryd.prog.funcNamed "barograph/barographlaw07.XorBack" = some 4 by kernel_rfl).symm.trans hf) |>.symm
      obtain rfl : fn = Tryd.f4 := (Option.some.inj (Tryd.func4.symm.trans hfn)).symm
      exact ⟨by kernel_rfl, fun j t ht => by
        rw [Tryd.params4] at ht
        rcases j with _ | j
        · obtain rfl : t = 23 := by simpa using ht.symm
          exact (show Tryd.prog.wantsStandIn 23 = false by kernel_rfl)
        simp at ht⟩)
    (by kernel_rfl)

end Go.Proofs.YtmoocomlcbalbaaDoor
