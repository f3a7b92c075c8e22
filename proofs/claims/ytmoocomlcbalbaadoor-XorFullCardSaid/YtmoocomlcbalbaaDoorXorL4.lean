/-
  Layer 7: XorFull: of more than 120 samples the first 120 go in.
-/
import Derived.Test.YtmoocomlcbalbaaDoorXorL
import Derived.Test.YtmoocomlcbalbaaDoorTie
import Derived.Test.YtmoocomlcbalbaaDoorCards
namespace Go.Proofs.YtmoocomlcbalbaaDoor
open Go.RowKit Go.Bar Go.Bar.Bit Go.Bar.Leb Go.Bar.Xor Go.ChangeShapes Go.WideShapes Go.ChangeAt
open Go.ChangeMaps (open_string shut_string)

/-- the samples -/
def fl (step : Int) (i : Nat) : Sm := ((i : Int) * step, i * 1152921504606846976 % 18446744073709551616)
def SF (step : Int) : Nat → St
  | 0 => St.zero
  | k + 1 => (SF step k).put (fl step k)
theorem SF_n (step : Int) : ∀ k, (SF step k).n = k
  | 0 => rfl
  | k + 1 => by rw [SF, (put_n _ _).1, SF_n step k]
theorem SF_t (step : Int) (k : Nat) : (SF step (k + 1)).t = (k : Int) * step := by rw [SF, (put_n _ _).2.1]; rfl
theorem fl_rg {step : Int} (h1 : 1 ≤ step) (h2 : step ≤ 1048576) (k : Nat) (hk : k ≤ 140) : 0 ≤ (k : Int) * step ∧ (k : Int) * step ≤ 146800640 := by
  constructor
  · exact Int.mul_nonneg (by omega) (by omega)
  · have := Int.mul_le_mul (show (k : Int) ≤ 140 by omega) h2 (by omega) (by omega)
    omega
theorem fl_lt {step : Int} (h1 : 1 ≤ step) (k j : Nat) (h : j < k) : (j : Int) * step < (k : Int) * step := Int.mul_lt_mul_of_pos_right (by omega) (by omega)
theorem SF_err {step : Int} (h1 : 1 ≤ step) (h2 : step ≤ 1048576) (k : Nat) (hk : k < 120) : err (SF step k) (fl step k) = 0 := by
  obtain ⟨a, b⟩ := fl_rg h1 h2 k (by omega)
  unfold err
  rw [SF_n, if_neg (by show ¬ ((k : Int) * step < 0 ∨ 1099511627776 < (k : Int) * step); omega), if_neg ?_, if_neg (by omega)]
  rintro ⟨h3, h4⟩
  obtain ⟨j, rfl⟩ : ∃ j, k = j + 1 := ⟨k - 1, by omega⟩
  rw [SF_t] at h4
  have := fl_lt h1 (j + 1) j (by omega)
  have h4 : ((j + 1 : Nat) : Int) * step ≤ (j : Int) * step := h4
  omega
theorem SF_full {step : Int} (h1 : 1 ≤ step) (h2 : step ≤ 1048576) (k : Nat) (hk : 120 ≤ k) (hk2 : k ≤ 140) : err (SF step 120) (fl step k) = 7 := by
  obtain ⟨a, b⟩ := fl_rg h1 h2 k (by omega)
  unfold err
  rw [SF_n, if_neg (by show ¬ ((k : Int) * step < 0 ∨ 1099511627776 < (k : Int) * step); omega), if_neg ?_, if_pos rfl]
  rintro ⟨h3, h4⟩
  rw [SF_t] at h4
  have := fl_lt h1 k 119 (by omega)
  have h4 : (k : Int) * step ≤ ((119 : Nat) : Int) * step := h4
  omega
theorem fl_v (step : Int) (i : Nat) : (fl step i).2 < 18446744073709551616 := Nat.mod_lt _ (by decide)
theorem SF_ok {step : Int} (h1 : 1 ≤ step) (h2 : step ≤ 1048576) : ∀ k, k ≤ 120 → (SF step k).Ok
  | 0, _ => St.zero_ok
  | k + 1, h => (SF_ok h1 h2 k (by omega)).put (SF_err h1 h2 k (by omega)) (fl_v step k)
/-- the list of them -/
def flL (step : Int) (j : Nat) : Nat → List Sm
  | 0 => []
  | m + 1 => fl step j :: flL step (j + 1) m
theorem flL_len (step : Int) : ∀ (m j : Nat), (flL step j m).length = m
  | 0, _ => rfl
  | m + 1, j => by rw [flL, List.length_cons, flL_len step m]
theorem flL_v (step : Int) : ∀ (m j : Nat), ∀ x ∈ flL step j m, x.2 < 18446744073709551616
  | 0, _, x, h => by simp [flL] at h
  | m + 1, j, x, h => by
    rw [flL, List.mem_cons] at h
    rcases h with rfl | h
    · exact fl_v step j
    · exact flL_v step m _ x h
theorem flL_of {step : Int} (h1 : 1 ≤ step) (h2 : step ≤ 1048576) : ∀ (m j : Nat), j + m ≤ 120 → ofS (SF step j) (flL step j m) = (SF step (j + m), 0)
  | 0, _, _ => rfl
  | m + 1, j, h => by
    rw [flL, ofS, if_pos (SF_err h1 h2 j (by omega))]
    have := flL_of h1 h2 m (j + 1) (by omega)
    rw [show j + (m + 1) = j + 1 + m by omega]
    exact this

set_option maxHeartbeats 4000000 in
set_option maxRecDepth 10000 in
theorem xorFull_no (step more : Int) (w : World) (hW : WidthsAt w) (hr1 : -9223372036854775808 ≤ step ∧ step ≤ 9223372036854775807) (hr2 : -9223372036854775808 ≤ more ∧ more ≤ 9223372036854775807) (h : ¬ (1 ≤ step ∧ step ≤ 1048576 ∧ 0 ≤ more ∧ more ≤ 20)) :
    Calls Tryd.prog 9 #[.int .i64 step, .int .i64 more] w (RetBelow w (.bool true)) := by
  have HAW := Lib.hid (fun w hW => awake7_any w hW)
  have hc : step < 1 ∨ (1 ≤ step ∧ 1048576 < step) ∨ (1 ≤ step ∧ step ≤ 1048576 ∧ more < 0) ∨ (1 ≤ step ∧ step ≤ 1048576 ∧ 0 ≤ more ∧ 20 < more) := by omega
  clear h
  rcases hc with g1 | ⟨g1, g2⟩ | ⟨g1, g2, g3⟩ | ⟨g1, g2, g3, g4⟩
  all_goals
    go_enter Tryd.func9, Tryd.ntmps9
    go_wp2_with fail
    refine (HAW.out _ hW).mono ?_
    rintro e w1 ⟨rfl, hb1⟩
    have HB1 := Lib.hid hb1
    clear hb1
    go_wp2_with fail
    refine (HAW.out _ (hW.below HB1.out)).mono ?_
    rintro e w2 ⟨rfl, hb2⟩
    have HB2 := Lib.hid (below_trans HB1.out hb2)
    clear hb2
    go_wp2_with fail
    go_ret
    exact ⟨rfl, HB2.out⟩

set_option maxHeartbeats 4000000 in
set_option maxRecDepth 10000 in
theorem xorFull_yes (step : Int) (mr : Nat) (w : World) (hW : WidthsAt w) (h1 : 1 ≤ step) (h2 : step ≤ 1048576) (h3 : mr ≤ 20) :
    Calls Tryd.prog 9 #[.int .i64 step, .int .i64 mr] w (RetBelow w (.bool true)) := by
  have HAW := Lib.hid (fun w hW => awake7_any w hW)
  have HOK := Lib.hid (fun k hk => SF_ok h1 h2 k hk)
  have HER := Lib.hid (fun k hk => SF_err h1 h2 k hk)
  have HFU := Lib.hid (fun k hk hk2 => SF_full h1 h2 k hk hk2)
  have HRG := Lib.hid (fun k hk => fl_rg h1 h2 k hk)
  have hof := flL_of h1 h2 120 0 (by omega)
  have hlen := flL_len step 120 0
  have hsm := samplesR_of (show ofS St.zero (flL step 0 120) = (SF step 120, 0) from hof) (flL_v step 120 0)
  obtain ⟨r, hr⟩ : ∃ r, r = flL step 0 120 := ⟨_, rfl⟩
  obtain ⟨tx, htx⟩ : ∃ tx, tx = text (SF step 120) := ⟨_, rfl⟩
  have hok := SF_ok h1 h2 120 (by omega)
  have htl : tx.length ≤ 100000 := by
    rw [htx]
    unfold text
    have h1 := u_len (SF step 120).n (by have := hok.n; omega)
    have h2 := u_len (SF step 120).bits.length (by have := hok.len; have := hok.n; omega)
    have h3 := pack_length (SF step 120).bits
    have h4 := hok.len
    have h5 := hok.n
    simp only [List.length_append]; omega
  rw [← hr, ← htx] at hsm
  rw [← hr] at hlen
  have HSA := Lib.hid (fun w' hW => (show Calls Tryd.prog 11 #[.string (bs tx)] w' (RetSm w' (r, 0)) by
    rw [← hsm]
    exact samples_any tx w' hW (by omega)))
  have HTX := Lib.hid (fun B v w' (h : ChAt w' B v (SF step 120)) => (show Calls Tryd.prog 18 #[.pointer (some ⟨B, 0, none⟩)] w' (RetBelow w' (.string (bs tx))) by rw [htx]; exact chText_any B v _ w' h hok))
  have HLN := Lib.hid hlen
  clear hof hsm hr htx hok htl hlen
  go_enter Tryd.func9, Tryd.ntmps9
  go_wp2_with fail
  refine (HAW.out _ hW).mono ?_
  rintro e w1 ⟨rfl, hb1⟩
  have hN0 := ChN.start hb1 43
  obtain ⟨B, hB⟩ : ∃ B, B = w1.heap.size := ⟨_, rfl⟩
  rw [← hB] at hN0
  have HBE := Lib.hid hB
  clear hB hb1
  go_wp2_with fail
  rw [← HBE.out]
  go_loopw [31] (fun i wr => ∃ (k : Nat) (v : Value), k ≤ 120 + mr ∧ i = .int .i64 k ∧ Hid (ChN w wr B v (SF step (min k 120)))) (fun i _ => 120 + mr - (intOf i).toNat)
  case atStart => exact ⟨0, _, Nat.zero_le _, rfl, Lib.hid hN0⟩
  case round =>
    clear hN0
    obtain ⟨k, v, hk, rfl, HN⟩ := hrel
    by_cases hgo : k < 120 + mr
    · obtain ⟨P, hP⟩ : ∃ P, (k : Int) * step = P := ⟨_, rfl⟩
      obtain ⟨V, hV⟩ : ∃ V : Nat, V = k * 1152921504606846976 % 18446744073709551616 := ⟨_, rfl⟩
      have hrg := HRG.out k (by omega)
      rw [hP] at hrg
      have hfl : fl step k = (P, V) := by unfold fl; rw [hP, hV]
      have hVw : IntKind.u64.wrap ((k : Int) * 1152921504606846976) = (V : Int) := by rw [IntKind.wrap_u64, hV]; omega
      have hVl : V < 18446744073709551616 := by rw [hV]; exact Nat.mod_lt _ (by decide)
      by_cases hlt : k < 120
      · have hmin : min k 120 = k := by omega
        rw [hmin] at HN
        have hap := append_ok w B v (SF step k) (P, V)
        have HAP := Lib.hid (fun wx (hN : ChN w wx B v (SF step k)) => hap wx hN hW (HOK.out k (by omega)) (by rw [← hfl]; exact HER.out k hlt) hVl)
        have HS := Lib.hid (show SF step (min (k + 1) 120) = (SF step k).put (P, V) by rw [show min (k + 1) 120 = k + 1 by omega, SF, hfl])
        have d1 : decide ((k : Int) < 120) = true := decide_eq_true (by omega)
        have d2 : decide ((120 : Int) ≤ (k : Int)) = false := decide_eq_false (by omega)
        clear hap hmin hfl hV
        go_wp2_with fail
        refine (HAP.out _ HN.out).mono ?_
        rintro e w2 ⟨rfl, v2, hch⟩
        have HN2 := Lib.hid (HN.out.next hch)
        clear hch
        go_wp2_with fail
        go_roundw
        case rel => exact ⟨k + 1, v2, by omega, by go_num, by rw [HS.out]; exact HN2⟩
        case measure => simp [intOf]; omega
      · have hmin : min k 120 = 120 := by omega
        rw [hmin] at HN
        have hf7 := HFU.out k (by omega) (by omega)
        rw [hfl] at hf7
        have HAP := Lib.hid (fun wx (hN : ChN w wx B v (SF step 120)) => (show Calls Tryd.prog 17 #[.pointer (some ⟨B, 0, none⟩), .agg #[.int .i64 P, .int .u64 (V : Nat)]] wx (RetBelow wx (.int .i64 7)) by
          have := append_err B v (SF step 120) (P, V) wx hN.at_ (by rw [SF_n]; omega) (by rw [hf7]; decide)
          rw [hf7] at this
          exact this))
        have HS := Lib.hid (show min (k + 1) 120 = 120 by omega)
        have d1 : decide ((k : Int) < 120) = false := decide_eq_false (by omega)
        have d2 : decide ((120 : Int) ≤ (k : Int)) = true := decide_eq_true (by omega)
        clear hmin hfl hV hf7
        go_wp2_with fail
        refine (HAP.out _ HN.out).mono ?_
        rintro e w2 ⟨rfl, hb2⟩
        have HN2 := Lib.hid (HN.out.then_below hb2)
        clear hb2
        go_wp2_with fail
        go_roundw
        case rel => exact ⟨k + 1, v, by omega, by go_num, by rw [HS.out]; exact HN2⟩
        case measure => simp [intOf]; omega
    · have hmin : min k 120 = 120 := by omega
      rw [hmin] at HN
      clear hmin
      go_wp2_with fail
      refine (HTX.out _ _ _ HN.out.at_).mono ?_
      rintro e w2 ⟨rfl, hb2⟩
      have HN2 := Lib.hid (HN.out.then_below hb2)
      clear hb2
      go_wp2_with fail
      refine (HSA.out _ (hW.below HN2.out.below)).mono ?_
      rintro e w3 ⟨v3, rfl, _, hF3, hb3⟩
      have hF3 := (hF3 rfl).slice
      obtain ⟨A3, c3, rfl, _⟩ := SmsAt.shape hF3
      have HN3 := Lib.hid (HN2.out.then_below hb3)
      have hln := HLN.out
      clear hb3 hF3
      go_wp2_with fail
      refine (chLen_any B v _ w3 HN3.out.at_).mono ?_
      rintro e w4 ⟨rfl, rfl⟩
      have hn120 : (SF step 120).n = 120 := SF_n step 120
      go_wp2_with fail
      go_ret
      exact ⟨rfl, HN3.out.below⟩

theorem xorFull_walk0 (step : Int) (h1 : (Lit.int .i64 step).wf = true) (more : Int) (h2 : (Lit.int .i64 more).wf = true) (w : World) (hW : WidthsAt w) :
    Calls Tryd.prog 9 #[.int .i64 step, .int .i64 more] w (RetBelow w (.bool true)) := by
  by_cases h : 1 ≤ step ∧ step ≤ 1048576 ∧ 0 ≤ more ∧ more ≤ 20
  · obtain ⟨g1, g2, g3, g4⟩ := h
    obtain ⟨m, rfl⟩ : ∃ m : Nat, more = m := ⟨more.toNat, by omega⟩
    exact xorFull_yes step m w hW g1 g2 (by omega)
  · exact xorFull_no step more w hW (bounds_i64 h1) (bounds_i64 h2) h

set_option maxRecDepth 100000 in
theorem xorFull_lifted (os : Os) (started : os.Started) (H : Type) (enc : TypeId × Value → H) :
    ReturnsInHanded {} Tryd.checked os 9 .any (fun w args => (Rows.xorFullSpec.pre enc Tryd.prog Tryd.f9 [] false w args ∧ laidMetH Tryd.prog [("barograph/xor.widths", Rows.laid_barograph_xor_widths)] w) ∧ sizedMet enc Tryd.prog Tryd.f9 (OpenSpec.ofChange Rows.xorFullSpec) false w args)
      (Rows.xorFullSpec.post enc Tryd.prog Tryd.f9 false true false false) := by
  refine returnsInHanded_of_change_and (C := Tryd.checked) (X := fun w _ => laidMetH Tryd.prog [("barograph/xor.widths", Rows.laid_barograph_xor_widths)] w) (fun _ _ _ hh h => h.of_heap hh) law_own started (by kernel_rfl) Tryd.func9
    (ChangeSpec.witness_shaped (enc := enc) (C := Tryd.checked) (os := os) (X := fun w _ => laidMetH Tryd.prog [("barograph/xor.widths", Rows.laid_barograph_xor_widths)] w) false (World.doorLaid Tryd.prog 400 os) #[.int .i64 0, .int .i64 0] 8 rfl (World.shaped_of_RefB (by kernel_rfl) (by kernel_rfl)) (by kernel_rfl) (by kernel_rfl) (by kernel_rfl) (door_met os _)) ?_
  intro W base args ds gs before hval0 hW _ _ hL _
  have hval : ∀ (j : Nat) t v, Tryd.f9.params[j]? = some t → args[j]? = some v → Value.okWide Tryd.prog W .any base t v := hval0
  have hW' := hW
  obtain ⟨p, q, hA0, hV, rfl, _, _⟩ := hW
  have hA : DataW.TrodAll enc Tryd.prog W 0 (fun _ => true) true Tryd.f9.params.toList args.toList ds p := hA0
  rw [Tryd.params9] at hA hval
  obtain ⟨v0, vs0, d0, ds0, p0, q0, hargs, rfl, rfl, h0, r0⟩ := trodAll_cons hA
  obtain ⟨v1, vs1, d1, ds1, p1, q1, rfl, rfl, rfl, h1, r1⟩ := trodAll_cons r0
  obtain ⟨rfl, rfl, rfl⟩ := trodAll_nil r1
  obtain rfl : args = #[v0, v1] := by cases args; simp_all
  obtain ⟨rfl, rfl⟩ := trodVars_none hV
  obtain ⟨a0, rfl, rfl, rfl, w0⟩ := open_int Tryd.underlying2 (hval 0 2 v0 rfl rfl) h0
  obtain ⟨a1, rfl, rfl, rfl, w1⟩ := open_int Tryd.underlying3 (hval 1 3 v1 rfl rfl) h1
  refine (xorFull_walk0 a0 w0 a1 w1 W  (of_laid hL)).mono fun e W' ⟨he, hb⟩ => ?_
  subst he
  exact ⟨_, rfl, law_post law_laid (by intro t ht; rw [Tryd.params9] at ht; simp only [List.mem_cons, List.not_mem_nil, or_false] at ht; rcases ht with rfl | rfl <;> exact ⟨by kernel_rfl, of_decide_eq_true (by kernel_rfl)⟩) rfl Tryd.underlying4 rfl rfl hW' hb⟩

theorem xorFull_holds : Rows.XorFullSaid :=
  OpenClaim.holds_of_wide 9 Tryd.f9 rfl rfl rfl rfl rfl rfl rfl ⟨rfl, rfl, rfl, rfl, rfl⟩ rfl rfl rfl rfl rfl (by kernel_rfl) Tryd.func9 (by kernel_rfl)
    (of_decide_eq_true (by kernel_rfl)) (by unfold Func.isWrapper; first | (rw [if_pos (by decide +kernel)]; kernel_rfl) | (rw [if_neg (by decide +kernel)]; exact ⟨rfl, rfl⟩))
    (fun os started H enc _ => xorFull_lifted os started H enc)

theorem xorFull_card : Rows.XorFullCardSaid :=
  Claim7.holds_tied_plain_at .later [] [.data] true (true, "95000c4295daf2b88b1a54d2cd38bdaca7f9c46c35c6ea7a8bec2a7142dbed1d") false
    xorFull_holds (fun _ h => by cases h) (by kernel_rfl) (fun _ h => by cases h) xorFull_row_tie rfl ⟨rfl, rfl⟩ (by kernel_rfl) rfl
    (fun f fn hf hfn => by
      obtain rfl : f = 9 := Option.some.inj ((show Tryd.prog.funcNamed "barograph/barographlaw07.XorFull" = some 9 by kernel_rfl).symm.trans hf) |>.symm
      obtain rfl : fn = Tryd.f9 := (Option.some.inj (Tryd.func9.symm.trans hfn)).symm
      exact ⟨by kernel_rfl, fun j t ht => by
        rw [Tryd.params9] at ht
        rcases j with _ | j
        · obtain rfl : t = 2 := by simpa using ht.symm
          exact (show Tryd.prog.wantsStandIn 2 = false by kernel_rfl)
        rcases j with _ | j
        · obtain rfl : t = 3 := by simpa using ht.symm
          exact (show Tryd.prog.wantsStandIn 3 = false by kernel_rfl)
        simp at ht⟩)
    (by kernel_rfl)

end Go.Proofs.YtmoocomlcbalbaaDoor
