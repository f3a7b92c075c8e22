/-
  Layer 7: XorLess: a beginning of samples has no more bytes than all.
-/
import Derived.Test.YtmoocomlcbalbaaDoorXorP
import Derived.Test.YtmoocomlcbalbaaDoorTie
import Derived.Test.YtmoocomlcbalbaaDoorCards
import Derived.Deep.DeepCutAuto
namespace Go.Proofs.YtmoocomlcbalbaaDoor
open Go.RowKit Go.Bar Go.Bar.Bit Go.Bar.Leb Go.Bar.Xor Go.ChangeShapes Go.WideShapes Go.ChangeAt
open Go.ChangeMaps (open_string shut_string)

theorem ofS_append : ∀ (a b : List Sm) (s s' : St), ofS s (a ++ b) = (s', 0) → ∃ s1, ofS s a = (s1, 0) ∧ ofS s1 b = (s', 0)
  | [], b, s, s', h => ⟨s, rfl, h⟩
  | x :: a, b, s, s', h => by
    rw [List.cons_append, ofS] at h
    by_cases he : err s x = 0
    · rw [if_pos he] at h
      obtain ⟨s1, h1, h2⟩ := ofS_append a b _ s' h
      exact ⟨s1, by rw [ofS, if_pos he, h1], h2⟩
    · rw [if_neg he] at h
      simp only [Prod.mk.injEq] at h
      exact absurd h.2 he
theorem text_mono {a b : St} (h1 : a.n ≤ b.n) (h2 : a.bits.length ≤ b.bits.length) : (text a).length ≤ (text b).length := by
  unfold text
  have := u_mono b.n a.n h1
  have := u_mono b.bits.length a.bits.length h2
  have := pack_length a.bits
  have := pack_length b.bits
  simp only [List.length_append]; omega
/-- the beginning of samples that are good -/
theorem begin_good {r : List Sm} {s : St} (h : ofS St.zero r = (s, 0)) (k : Nat) : ∃ s1, ofS St.zero (r.take k) = (s1, 0) ∧ (text s1).length ≤ (text s).length := by
  rw [← List.take_append_drop k r] at h
  obtain ⟨s1, h1, h2⟩ := ofS_append _ _ _ _ h
  obtain ⟨g1, g2⟩ := ofS_more _ _ _ h2
  refine ⟨s1, h1, text_mono (by omega) ?_⟩
  rw [g1, List.length_append]; omega

set_option maxHeartbeats 4000000 in
set_option maxRecDepth 10000 in
theorem xorLess_walk0 (v : Value) (l : List Sm) (n : Int) (hn : (Lit.int .i64 n).wf = true) (w : World) (h : SmsArg w v l) (hW : WidthsAt w) :
    Calls Tryd.prog 7 #[v, .int .i64 n] w (RetBelow w (.bool true)) := by
  have hn := bounds_i64 hn
  obtain ⟨s, hs⟩ := riseL_good l (fun x hx => (h.2 x hx).1)
  have hv := rise_v (l.take 20) 0 (fun x hx => (h.2 x (List.mem_of_mem_take hx)).1)
  have hl := riseL_length l
  have hok : s.Ok := by
    have := ofS_ok (riseL l) St.zero St.zero_ok hv
    rw [hs] at this
    exact this
  have htl : (text s).length ≤ 100000 := by
    unfold text
    have h1 := u_len s.n (by have := hok.n; omega)
    have h2 := u_len s.bits.length (by have := hok.len; have := hok.n; omega)
    have h3 := pack_length s.bits
    have h4 := hok.len
    have h5 := hok.n
    simp only [List.length_append]; omega
  have HRI := Lib.hid (rise_any l v w h)
  obtain ⟨r, hr⟩ : ∃ r, r = riseL l := ⟨_, rfl⟩
  have hv' : ∀ x ∈ r, x.2 < 18446744073709551616 := by rw [hr]; exact hv
  rw [← hr] at hs HRI hl
  obtain ⟨K, hK⟩ : ∃ K : Nat, (K : Int) = min (max n 0) (r.length : Int) := ⟨(min (max n 0) (r.length : Int)).toNat, by omega⟩
  have hKl : K ≤ r.length := by omega
  obtain ⟨s1, hs1, hle⟩ := begin_good hs K
  obtain ⟨tx, htx⟩ : ∃ tx, tx = text s := ⟨_, rfl⟩
  obtain ⟨ty, hty⟩ : ∃ tx, tx = text s1 := ⟨_, rfl⟩
  rw [← htx, ← hty] at hle
  have HOF := Lib.hid (fun v w' (h : SmsAt w' v r) hW => (show Calls Tryd.prog 16 #[v] w' (RetBelow w' (.tuple #[.string (bs tx), .int .i64 0])) by
    have := of_any r v w' h hW hv'
    rw [hs, ofTx_ok rfl] at this
    rw [htx]
    exact this))
  have HOG := Lib.hid (fun v w' (h : SmsAt w' v (r.take K)) hW => (show Calls Tryd.prog 16 #[v] w' (RetBelow w' (.tuple #[.string (bs ty), .int .i64 0])) by
    have := of_any (r.take K) v w' h hW (fun x hx => hv' x (List.mem_of_mem_take hx))
    rw [hs1, ofTx_ok rfl] at this
    rw [hty]
    exact this))
  have HAW := Lib.hid (fun w hW => awake7_any w hW)
  have HK := Lib.hid hK
  have d1 : decide (ty.length ≤ tx.length) = true := decide_eq_true hle
  have d2 : decide ((ty.length : Int) ≤ (tx.length : Int)) = true := decide_eq_true (by omega)
  obtain ⟨A, c, rfl, _⟩ := h.1.shape
  clear hs hs1 hv hr hok htl htx hty hv' h hK
  go_enter Tryd.func7, Tryd.ntmps7
  go_wp2_with fail
  refine HRI.out.mono ?_
  rintro e w1 ⟨v1, rfl, hF1, hb1⟩
  obtain ⟨A1, c1, rfl, hc1⟩ := hF1.buf.shape
  have hcm1 : c1 ≤ maxLen := by obtain ⟨_, _, he, _, hm⟩ := SlAt.shape hF1.slice; injection he with _ _ he; rw [he]; exact hm
  have HG1 := Lib.hid (show SmsAt w1 (.slice A1 K c1) (r.take K) by
    have := SlAt.take hF1.slice K c1 hKl (by omega) hcm1
    unfold SmsAt
    rw [List.length_take, Nat.min_eq_left hKl]
    rw [show smc (r.take K) = (smc r).take (K * 2) from (flat2_take _ _ r K).symm]
    exact this)
  have HF1 := Lib.hid (show SmsAt w1 _ r from hF1.slice)
  have HB1 := Lib.hid hb1
  clear hF1 hb1
  unfold maxLen at hcm1
  go_upto_region 2 with fail
  go_cut [1] (fun s wx => s = .int .i64 K ∧ w1 = wx)
  case first =>
    go_wp2_with fail
    all_goals (go_meet; exact ⟨congrArg (Value.int .i64) (by have := HK.out; omega), rfl⟩)
  case rest =>
  obtain ⟨rfl, rfl⟩ := hcut
  go_wp2_with fail
  refine (HOG.out _ _ HG1.out (hW.below HB1.out)).mono ?_
  rintro e w2 ⟨rfl, hb2⟩
  have HF2 := Lib.hid (HF1.out.below hb2)
  have HB2 := Lib.hid (below_trans HB1.out hb2)
  clear hb2
  go_wp2_with fail
  refine (HOF.out _ _ HF2.out (hW.below HB2.out)).mono ?_
  rintro e w3 ⟨rfl, hb3⟩
  have HB3 := Lib.hid (below_trans HB2.out hb3)
  clear hb3
  go_wp2_with fail
  refine (HAW.out _ (hW.below HB3.out)).mono ?_
  rintro e w4 ⟨rfl, hb4⟩
  have HB4 := Lib.hid (below_trans HB3.out hb4)
  clear hb4
  go_wp2_with fail
  go_ret
  exact ⟨rfl, HB4.out⟩

set_option maxRecDepth 100000 in
theorem xorLess_lifted (os : Os) (started : os.Started) (H : Type) (enc : TypeId × Value → H) :
    ReturnsInHanded {} Tryd.checked os 7 .any (fun w args => (Rows.xorLessSpec.pre enc Tryd.prog Tryd.f7 [] false w args ∧ laidMetH Tryd.prog [("barograph/xor.widths", Rows.laid_barograph_xor_widths)] w) ∧ sizedMet enc Tryd.prog Tryd.f7 (OpenSpec.ofChange Rows.xorLessSpec) false w args)
      (Rows.xorLessSpec.post enc Tryd.prog Tryd.f7 false true false false) := by
  refine returnsInHanded_of_change_and (C := Tryd.checked) (X := fun w _ => laidMetH Tryd.prog [("barograph/xor.widths", Rows.laid_barograph_xor_widths)] w) (fun _ _ _ hh h => h.of_heap hh) law_own started (by kernel_rfl) Tryd.func7
    (ChangeSpec.witness_shaped (enc := enc) (C := Tryd.checked) (os := os) (X := fun w _ => laidMetH Tryd.prog [("barograph/xor.widths", Rows.laid_barograph_xor_widths)] w) false (World.doorLaid Tryd.prog 400 os) #[.slice none 0 0, .int .i64 0] 8 rfl (World.shaped_of_RefB (by kernel_rfl) (by kernel_rfl)) (by kernel_rfl) (by kernel_rfl) (by kernel_rfl) (door_met os _)) ?_
  intro W base args ds gs before hval0 hW _ _ hL _
  have hval : ∀ (j : Nat) t v, Tryd.f7.params[j]? = some t → args[j]? = some v → Value.okWide Tryd.prog W .any base t v := hval0
  have hW' := hW
  obtain ⟨p, q, hA0, hV, rfl, _, _⟩ := hW
  have hA : DataW.TrodAll enc Tryd.prog W 0 (fun _ => true) true Tryd.f7.params.toList args.toList ds p := hA0
  rw [Tryd.params7] at hA hval
  obtain ⟨v0, vs0, d0, ds0, p0, q0, hargs, rfl, rfl, h0, r0⟩ := trodAll_cons hA
  obtain ⟨v1, vs1, d1, ds1, p1, q1, rfl, rfl, rfl, h1, r1⟩ := trodAll_cons r0
  obtain ⟨rfl, rfl, rfl⟩ := trodAll_nil r1
  obtain rfl : args = #[v0, v1] := by cases args; simp_all
  obtain ⟨rfl, rfl⟩ := trodVars_none hV
  obtain ⟨a1, rfl, rfl, rfl, w1⟩ := open_int Tryd.underlying3 (hval 1 3 v1 rfl rfl) h1
  obtain ⟨ts0, hts0⟩ := open_sms (hval 0 23 v0 rfl rfl) h0
  refine (xorLess_walk0 v0 ts0 a1 w1 W hts0 (of_laid hL)).mono fun e W' ⟨he, hb⟩ => ?_
  subst he
  exact ⟨_, rfl, law_post law_laid (by intro t ht; rw [Tryd.params7] at ht; simp only [List.mem_cons, List.not_mem_nil, or_false] at ht; rcases ht with rfl | rfl <;> exact ⟨by kernel_rfl, of_decide_eq_true (by kernel_rfl)⟩) rfl Tryd.underlying4 rfl rfl hW' hb⟩

theorem xorLess_holds : Rows.XorLessSaid :=
  OpenClaim.holds_of_wide 7 Tryd.f7 rfl rfl rfl rfl rfl rfl rfl ⟨rfl, rfl, rfl, rfl, rfl⟩ rfl rfl rfl rfl rfl (by kernel_rfl) Tryd.func7 (by kernel_rfl)
    (of_decide_eq_true (by kernel_rfl)) (by unfold Func.isWrapper; first | (rw [if_pos (by decide +kernel)]; kernel_rfl) | (rw [if_neg (by decide +kernel)]; exact ⟨rfl, rfl⟩))
    (fun os started H enc _ => xorLess_lifted os started H enc)

theorem xorLess_card : Rows.XorLessCardSaid :=
  Claim7.holds_tied_plain_at .later [] [.data] true (true, "95000c4295daf2b88b1a54d2cd38bdaca7f9c46c35c6ea7a8bec2a7142dbed1d") false
    xorLess_holds (fun _ h => by cases h) (by kernel_rfl) (fun _ h => by cases h) xorLess_row_tie rfl ⟨rfl, rfl⟩ (by kernel_rfl) rfl
    (fun f fn hf hfn => by
      obtain rfl : f = 7 := Option.some.inj ((show Tryd.prog.funcNamed "barograph/barographlaw07.XorLess" = some 7 by kernel_rfl).symm.trans hf) |>.symm
      obtain rfl : fn = Tryd.f7 := (Option.some.inj (Tryd.func7.symm.trans hfn)).symm
      exact ⟨by kernel_rfl, fun j t ht => by
        rw [Tryd.params7] at ht
        rcases j with _ | j
        · obtain rfl : t = 23 := by simpa using ht.symm
          exact (show Tryd.prog.wantsStandIn 23 = false by kernel_rfl)
        rcases j with _ | j
        · obtain rfl : t = 3 := by simpa using ht.symm
          exact (show Tryd.prog.wantsStandIn 3 = false by kernel_rfl)
        simp at ht⟩)
    (by kernel_rfl)

end Go.Proofs.YtmoocomlcbalbaaDoor
