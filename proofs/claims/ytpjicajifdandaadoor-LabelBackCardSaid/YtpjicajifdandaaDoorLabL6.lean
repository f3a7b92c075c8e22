/-
  Label: a set goes as a key and a text, and comes back. No condition.
-/
import Derived.Test.YtpjicajifdandaaDoorLabZ
import Derived.Test.YtpjicajifdandaaDoorLabL4
import Derived.Lib.BufferMore
import Derived.Test.YtpjicajifdandaaDoorTie
import Derived.Test.YtpjicajifdandaaDoorCards
namespace Go.Proofs.YtpjicajifdandaaDoor
open Go.RowKit Go.Bar Go.Bar.Leb Go.Bar.Lab Go.ChangeShapes Go.WideShapes Go.ChangeAt
open Go.ChangeMaps (open_string shut_string)

theorem tx_len (l : List UInt8) (h : l.length ≤ 40) : (tx l).length ≤ 50 := by
  have := u_len l.length (by omega)
  unfold tx; rw [List.length_append]; omega
theorem flat_len : ∀ (l : List Pr), (∀ p ∈ l, p.1.length ≤ 40 ∧ p.2.length ≤ 40) → (l.flatMap fun p => tx p.1 ++ tx p.2).length ≤ l.length * 100
  | [], _ => by simp
  | p :: l, h => by
    have ih := flat_len l (fun q hq => h q (by simp [hq]))
    have h1 := tx_len p.1 (h p (by simp)).1
    have h2 := tx_len p.2 (h p (by simp)).2
    rw [List.flatMap_cons, List.length_append, List.length_append, List.length_cons]
    omega
theorem key_len (l : List Pr) (hl : l.length ≤ 8) (h : ∀ p ∈ l, p.1.length ≤ 40 ∧ p.2.length ≤ 40) : (key l).length ≤ 1000 := by
  have h1 := u_len l.length (by omega)
  have h2 := flat_len l h
  unfold key
  rw [List.length_append]
  omega
theorem text_fl : ∀ (l : List Pr), (∀ p ∈ l, p.1.length ≤ 40 ∧ p.2.length ≤ 40) → (l.flatMap fun q => 44 :: Lab.one q).length ≤ l.length * 82
  | [], _ => by simp
  | p :: l, h => by
    have ih := text_fl l (fun q hq => h q (by simp [hq]))
    have h1 := h p (by simp)
    rw [List.flatMap_cons, List.length_append, List.length_cons, List.length_cons]
    unfold Lab.one
    rw [List.length_append, List.length_cons]
    unfold Lab.one at ih
    omega
theorem text_len6 : ∀ (l : List Pr), l.length ≤ 8 → (∀ p ∈ l, p.1.length ≤ 40 ∧ p.2.length ≤ 40) → (Lab.text l).length ≤ 1000
  | [], _, _ => by simp [Lab.text]
  | p :: l, hl, h => by
    have ih := text_fl l (fun q hq => h q (by simp [hq]))
    have h1 := h p (by simp)
    rw [Lab.text, List.length_append]
    rw [List.length_cons] at hl
    have h2 : (Lab.one p).length = p.1.length + (p.2.length + 1) := by unfold Lab.one; simp
    omega

set_option maxHeartbeats 4000000 in
set_option maxRecDepth 10000 in
theorem labelBack_walk0 (v0 : Value) (l0 : List Pr) (t0 : ByteArray) (ht0 : t0.size ≤ maxLen) (W : World) (h0 : PsArg W v0 l0) (_ : True) :
    Calls Tryd.prog 8 #[v0, .string t0] W (RetBelow W (.bool true)) := by
  have M0 := made_any v0 l0 W h0.1 h0.2
  have c0 := fun w => cut_any t0 20 w (by omega) (by omega) ht0
  obtain ⟨tl, htl⟩ : ∃ s, s = t0.data.toList.take (20 : Int).toNat := ⟨_, rfl⟩
  have htll : tl.length ≤ 20 := by rw [htl, List.length_take]; exact Nat.min_le_left _ _
  rw [← htl] at c0
  have C0 := Lib.hid c0
  clear c0 htl h0
  have hsm := mkL_sm l0
  have hml := mkL_len l0
  unfold RetMd at M0
  obtain ⟨S, hS⟩ : ∃ S, S = sorted (mkL l0) := ⟨_, rfl⟩
  have hc44 : ∀ p ∈ S, 44 ∉ p.2 := fun p hp => (hsm p ((Lab.sorted_perm _).mem_iff.1 (by rw [← hS]; exact hp))).2.2
  rw [← hS] at M0
  clear hS hsm hml
  by_cases hck : chk S = true
  · have hok := chk_iff.1 hck
    simp only [if_pos hck] at M0
    have HM := Lib.hid M0
    have hsz : ∀ p ∈ S, p.1.length ≤ 40 ∧ p.2.length ≤ 40 := fun p hp => ⟨(okP_len (hok.2.2.1 p hp)).1, (okP_len (hok.2.2.1 p hp)).2.1⟩
    have hS8 := hok.2.1
    have hS0 := hok.1
    have hkl := key_len S hS8 hsz
    have hxl := text_len6 S hS8 hsz
    obtain ⟨K, hK⟩ : ∃ K, K = key S := ⟨_, rfl⟩
    obtain ⟨T, hT⟩ : ∃ T, T = Lab.text S := ⟨_, rfl⟩
    have htk : Lab.take (K ++ tl) = (S, tl, 0) := by rw [hK]; exact take_key hok tl
    have hps : parse T = (S, 0) := by rw [hT]; exact parse_text hok hc44
    rw [← hK] at hkl
    rw [← hT] at hxl
    have hsum : (K ++ tl).length ≤ 2000 := by rw [List.length_append]; omega
    have TK := Lib.hid (fun w => (show Calls Tryd.prog 29 #[.string (bs (K ++ tl))] w fun e w' => ∃ v, e = .returned (.tuple #[v, .string (bs tl), .int .i64 ((0 : Nat) : Int)]) ∧ NBuf w w' 57 2 v S.length (pcs S) by
      exact take_at htk w (by omega)))
    have PT := Lib.hid (fun w => parse_at hps w (by omega))
    have KS := Lib.hid (fun v w (h : PsAt w v S) => (show Calls Tryd.prog 21 #[v] w (RetBelow w (.string (bs K))) by rw [hK]; exact key_any v S w h (by omega) (fun p hp => by have := hsz p hp; omega)))
    have XS := Lib.hid (fun v w (h : PsAt w v S) => (show Calls Tryd.prog 23 #[v] w (RetBelow w (.string (bs T))) by rw [hT]; exact text_any6 v S w h (by omega) (fun p hp => by have := hsz p hp; omega)))
    have CS := Lib.hid (fun v v' w (h : PsAt w v S) (h' : PsAt w v' S) => (show Calls Tryd.prog 25 #[v, v'] w (RetBelow w (.int .i64 0)) by
      have := lcompare_any v v' S S w h h'
      rwa [cmpL_zero.2 rfl] at this))
    have hn : ¬ 9223372036854775807 < K.length + tl.length := by omega
    clear hK hT htk hps hsz hok hck hc44 M0 hsum hxl
    go_enter Tryd.func8, Tryd.ntmps8
    go_wp2_with fail
    refine HM.out.mono ?_
    rintro e w1 ⟨a, rfl, n1⟩
    obtain ⟨sA, sc, rfl, hsc⟩ := n1.buf.shape
    obtain ⟨sb, so, rfl, _⟩ := n1.buf.some_at hS0
    have N1 := Lib.hid n1
    clear n1
    have hnil := fun W => Lib.run_eql_slice_some_nil (P := Tryd.prog) W (t := 25) ⟨sb, so, none⟩ S.length sc Tryd.underlying25
    go_wp2_with fail
    refine (C0.out _).mono ?_
    rintro e w' ⟨rfl, rfl⟩
    go_wp2_with fail
    refine (awake6_any _).mono ?_
    rintro e w2 ⟨rfl, hb⟩
    have N2 := Lib.hid (N1.out.then_below hb)
    clear hb N1
    go_wp2_with fail
    refine (KS.out _ _ N2.out.slice).mono ?_
    rintro e w3 ⟨rfl, hb⟩
    have N3 := Lib.hid (N2.out.then_below hb)
    clear hb N2
    go_wp2_with fail
    (with_reducible refine (TK.out _).mono ?_)
    rintro e w4 ⟨b, rfl, n4⟩
    have N4 := Lib.hid (N3.out.then_below n4.below)
    have NA4 := Lib.hid (n4.after N3.out.below)
    clear n4 N3
    go_wp2_with fail
    refine (XS.out _ _ N4.out.slice).mono ?_
    rintro e w5 ⟨rfl, hb⟩
    have N5 := Lib.hid (N4.out.then_below hb)
    have NA5 := Lib.hid (NA4.out.then_below hb)
    clear hb N4 NA4
    go_wp2_with fail
    refine (PT.out _).mono ?_
    rintro e w6 ⟨c, rfl, n6⟩
    have N6 := Lib.hid (N5.out.then_below n6.below)
    have NA6 := Lib.hid (NA5.out.then_below n6.below)
    have NB6 := Lib.hid (n6.after N5.out.below)
    clear n6 N5 NA5
    go_wp2_with fail
    refine (CS.out _ _ _ NA6.out.slice N6.out.slice).mono ?_
    rintro e w7 ⟨rfl, hb⟩
    have N7 := Lib.hid (N6.out.then_below hb)
    have NA7 := Lib.hid (NA6.out.then_below hb)
    have NB7 := Lib.hid (NB6.out.then_below hb)
    clear hb N6 NA6 NB6
    go_wp2_with fail
    refine (CS.out _ _ _ NB7.out.slice N7.out.slice).mono ?_
    rintro e w8 ⟨rfl, hb⟩
    have N8 := Lib.hid (N7.out.then_below hb)
    have NA8 := Lib.hid (NA7.out.then_below hb)
    clear hb N7 NA7 NB7
    go_wp2_with fail
    refine (KS.out _ _ NA8.out.slice).mono ?_
    rintro e w9 ⟨rfl, hb⟩
    have N9 := Lib.hid (N8.out.then_below hb)
    clear hb N8 NA8
    go_wp2_with fail
    refine (KS.out _ _ N9.out.slice).mono ?_
    rintro e wa ⟨rfl, hb⟩
    have N10 := Lib.hid (N9.out.then_below hb)
    clear hb N9
    go_wp2_with fail
    go_ret
    exact ⟨rfl, N10.out.below⟩
  · simp only [if_neg hck] at M0
    have HM := Lib.hid M0
    clear hck hc44 M0
    have hnil := fun W => Lib.run_eql_slice_nil_nil (P := Tryd.prog) W (t := 25) 0 0 Tryd.underlying25
    go_enter Tryd.func8, Tryd.ntmps8
    go_wp2_with fail
    refine HM.out.mono ?_
    rintro e w1 ⟨rfl, hb1⟩
    go_wp2_with fail
    refine (C0.out _).mono ?_
    rintro e w' ⟨rfl, rfl⟩
    go_wp2_with fail
    refine (awake6_any _).mono ?_
    rintro e w2 ⟨rfl, hb2⟩
    go_wp2_with fail
    refine (awake6_any _).mono ?_
    rintro e w3 ⟨rfl, hb3⟩
    go_wp2_with fail
    go_ret
    exact ⟨rfl, below_trans (below_trans hb1 hb2) hb3⟩

set_option maxHeartbeats 8000000 in
set_option maxRecDepth 100000 in
theorem labelBack_lifted (os : Os) (started : os.Started) (H : Type) (enc : TypeId × Value → H) :
    ReturnsInHanded {} Tryd.checked os 8 .any (fun w args => (Rows.labelBackSpec.pre enc Tryd.prog Tryd.f8 [] false w args ∧ laidMetH Tryd.prog [("unicode/utf8.acceptRanges", Rows.laid_unicode_utf8_acceptRanges), ("unicode/utf8.first", Rows.laid_unicode_utf8_first)] w) ∧ sizedMet enc Tryd.prog Tryd.f8 (OpenSpec.ofChange Rows.labelBackSpec) false w args)
      (Rows.labelBackSpec.post enc Tryd.prog Tryd.f8 false true false false) := by
  refine returnsInHanded_of_change_and (C := Tryd.checked) (X := fun w _ => laidMetH Tryd.prog [("unicode/utf8.acceptRanges", Rows.laid_unicode_utf8_acceptRanges), ("unicode/utf8.first", Rows.laid_unicode_utf8_first)] w) (fun _ _ _ hh h => h.of_heap hh) law_own started (by kernel_rfl) Tryd.func8
    (ChangeSpec.witness_shaped (enc := enc) (C := Tryd.checked) (os := os) (X := fun w _ => laidMetH Tryd.prog [("unicode/utf8.acceptRanges", Rows.laid_unicode_utf8_acceptRanges), ("unicode/utf8.first", Rows.laid_unicode_utf8_first)] w) false (World.laidAll Tryd.prog os [("unicode/utf8.acceptRanges", Rows.laid_unicode_utf8_acceptRanges), ("unicode/utf8.first", Rows.laid_unicode_utf8_first)]) #[.slice none 0 0, .string ByteArray.empty] 8 (World.laidAll_os _ _ _)
      (World.shaped_of_ZipB (by kernel_rfl) (by kernel_rfl)) (by kernel_rfl) (by kernel_rfl) (by kernel_rfl) (door_met os _)) ?_
  intro W base args ds gs before hval0 hW _ _ hL _
  have hval : ∀ (j : Nat) t v, Tryd.f8.params[j]? = some t → args[j]? = some v → Value.okWide Tryd.prog W .any base t v := hval0
  have hW' := hW
  obtain ⟨p, q, hA0, hV, rfl, _, _⟩ := hW
  have hA : DataW.TrodAll enc Tryd.prog W 0 (fun _ => true) true Tryd.f8.params.toList args.toList ds p := hA0
  rw [Tryd.params8] at hA hval
  obtain ⟨v0, vs0, d0, ds0, p0, q0, hargs, rfl, rfl, h0, r0⟩ := trodAll_cons hA
  obtain ⟨v1, vs1, d1, ds1, p1, q1, rfl, rfl, rfl, h1, r1⟩ := trodAll_cons r0
  obtain ⟨rfl, rfl, rfl⟩ := trodAll_nil r1
  obtain rfl : args = #[v0, v1] := by cases args; simp_all
  obtain ⟨rfl, rfl⟩ := trodVars_none hV
  obtain ⟨a1, rfl, rfl, rfl, w1⟩ := open_string Tryd.underlying9 (hval 1 9 v1 rfl rfl) h1
  obtain ⟨ts0, hts0⟩ := open_pairs (hval 0 22 v0 rfl rfl) h0
  refine (labelBack_walk0 v0 ts0 a1 w1 W hts0 (of_laid hL)).mono fun e W' ⟨he, hb⟩ => ?_
  subst he
  exact ⟨_, rfl, law_post law_laid (by intro t ht; rw [Tryd.params8] at ht; simp only [List.mem_cons, List.not_mem_nil, or_false] at ht; rcases ht with rfl | rfl <;> exact ⟨by kernel_rfl, of_decide_eq_true (by kernel_rfl)⟩) rfl Tryd.underlying4 rfl rfl hW' hb⟩

theorem labelBack_holds : Rows.LabelBackSaid :=
  OpenClaim.holds_of_wide 8 Tryd.f8 rfl rfl rfl rfl rfl rfl rfl ⟨rfl, rfl, rfl, rfl, rfl⟩ rfl rfl rfl rfl rfl (by kernel_rfl) Tryd.func8 (by kernel_rfl)
    (of_decide_eq_true (by kernel_rfl)) (by unfold Func.isWrapper; first | (rw [if_pos (by decide +kernel)]; kernel_rfl) | (rw [if_neg (by decide +kernel)]; exact ⟨rfl, rfl⟩))
    (fun os started H enc _ => labelBack_lifted os started H enc)

theorem labelBack_card : Rows.LabelBackCardSaid :=
  Claim7.holds_tied_plain_at .later [] [.data, .pinned] true (true, "2d1145cbd28946932db5907653de828529f99ff6858137b0f836a60a01e5d84d") false
    labelBack_holds (fun _ h => by cases h) (by kernel_rfl) (fun _ h => by cases h) labelBack_row_tie rfl ⟨rfl, rfl⟩ (by kernel_rfl) rfl
    (fun f fn hf hfn => by
      obtain rfl : f = 8 := Option.some.inj ((show Tryd.prog.funcNamed "barograph/barographlaw06.LabelBack" = some 8 by kernel_rfl).symm.trans hf) |>.symm
      obtain rfl : fn = Tryd.f8 := (Option.some.inj (Tryd.func8.symm.trans hfn)).symm
      exact ⟨by kernel_rfl, fun j t ht => by
        rw [Tryd.params8] at ht
        rcases j with _ | j
        · obtain rfl : t = 22 := by simpa using ht.symm
          exact (show Tryd.prog.wantsStandIn 22 = false by kernel_rfl)
        rcases j with _ | j
        · obtain rfl : t = 9 := by simpa using ht.symm
          exact (show Tryd.prog.wantsStandIn 9 = false by kernel_rfl)
        simp at ht⟩)
    (by kernel_rfl)

end Go.Proofs.YtpjicajifdandaaDoor
