/-
  Label: any text is the set that it is, or refused. No condition.
-/
import Derived.Test.YtpjicajifdandaaDoorLabY
import Derived.Test.YtpjicajifdandaaDoorTie
import Derived.Test.YtpjicajifdandaaDoorCards
namespace Go.Proofs.YtpjicajifdandaaDoor
open Go.RowKit Go.Bar Go.Bar.Leb Go.Bar.Lab Go.ChangeShapes Go.WideShapes Go.ChangeAt
open Go.ChangeMaps (open_string shut_string)

theorem take_at {s r : List UInt8} {l : List Pr} {c : Nat} (h : Lab.take s = (l, r, c)) (w : World) (hs : s.length ≤ 1000000000000) :
    Calls Tryd.prog 29 #[.string (bs s)] w fun e w' => ∃ v, e = .returned (.tuple #[v, .string (bs r), .int .i64 (c : Nat)]) ∧ NBuf w w' 57 2 v l.length (pcs l) :=
  (take_any s w hs).mono fun _ _ ⟨v, l', r', c', h1, h2, h3⟩ => by
    rw [h] at h1
    simp only [Prod.mk.injEq] at h1
    obtain ⟨rfl, rfl, rfl⟩ := h1
    exact ⟨v, h2, h3⟩

theorem rtake_at {s r : List UInt8} {l : List Pr} {c : Nat} (h : Lab.take s = (l, r, c)) (w : World) (hs : s.length ≤ 1000000000000) :
    Calls Tryd.prog 30 #[.string (bs s)] w fun e w' => ∃ v, e = .returned (.tuple #[v, .string (bs r), .int .i64 (c : Nat)]) ∧ NBuf w w' 61 2 v l.length (pcs l) :=
  (rtake_any s w hs).mono fun _ _ ⟨v, l', r', c', h1, h2, h3⟩ => by
    rw [h] at h1
    simp only [Prod.mk.injEq] at h1
    obtain ⟨rfl, rfl, rfl⟩ := h1
    exact ⟨v, h2, h3⟩

theorem parse_at {s : List UInt8} {l : List Pr} {c : Nat} (h : parse s = (l, c)) (w : World) (hs : s.length ≤ 1000) :
    Calls Tryd.prog 27 #[.string (bs s)] w fun e w' => ∃ v, e = .returned (.tuple #[v, .int .i64 (c : Nat)]) ∧ NBuf w w' 57 2 v l.length (pcs l) := by
  have := parse_any6 s w (by omega)
  unfold RetPs at this
  rw [h] at this
  exact this

theorem rparse_at {s : List UInt8} {l : List Pr} {c : Nat} (h : parse s = (l, c)) (w : World) (hs : s.length ≤ 1000) :
    Calls Tryd.prog 28 #[.string (bs s)] w fun e w' => ∃ v, e = .returned (.tuple #[v, .int .i64 (c : Nat)]) ∧ NBuf w w' 61 2 v l.length (pcs l) := by
  have := rparse_any6 s w (by omega)
  unfold RetRPs at this
  rw [h] at this
  exact this

set_option maxHeartbeats 4000000 in
set_option maxRecDepth 10000 in
theorem labelReads_walk0 (t0 : ByteArray) (ht0 : t0.size ≤ maxLen) (s0 : ByteArray) (hs0 : s0.size ≤ maxLen) (W : World) (_ : True) :
    Calls Tryd.prog 7 #[.string t0, .string s0] W (RetBelow W (.bool true)) := by
  have c0 := fun w => cut_any t0 300 w (by omega) (by omega) ht0
  have c1 := fun w => cut_any s0 300 w (by omega) (by omega) hs0
  obtain ⟨t, ht⟩ : ∃ t, t = t0.data.toList.take (300 : Int).toNat := ⟨_, rfl⟩
  obtain ⟨s, hs⟩ : ∃ s, s = s0.data.toList.take (300 : Int).toNat := ⟨_, rfl⟩
  have htl : t.length ≤ 300 := by rw [ht, List.length_take]; exact Nat.min_le_left _ _
  have hsl : s.length ≤ 300 := by rw [hs, List.length_take]; exact Nat.min_le_left _ _
  rw [← ht] at c0
  rw [← hs] at c1
  have C0 := Lib.hid c0
  have C1 := Lib.hid c1
  clear c0 c1 ht hs
  obtain ⟨L, E, hp⟩ : ∃ L E, parse t = (L, E) := ⟨_, _, rfl⟩
  obtain ⟨M, R, G, hk⟩ : ∃ M R G, Lab.take s = (M, R, G) := ⟨_, _, _, rfl⟩
  have P0 := Lib.hid (fun w => parse_at hp w (by omega))
  have P1 := Lib.hid (fun w => rparse_at hp w (by omega))
  have T0 := Lib.hid (fun w => take_at hk w (by omega))
  have T1 := Lib.hid (fun w => rtake_at hk w (by omega))
  have I0 := Lib.hid (fun v v' w (h : PsAt w v L) (h' : PsAt w v' L) => is_any6 v v' L w h h')
  have I1 := Lib.hid (fun v v' w (h : PsAt w v M) (h' : PsAt w v' M) => is_any6 v v' M w h h')
  have hee : ((E : Int) == E) = true := by rw [beq_iff_eq]
  have hgg : ((G : Int) == G) = true := by rw [beq_iff_eq]
  clear hp hk htl hsl
  go_enter Tryd.func7, Tryd.ntmps7
  go_wp2_with fail
  refine (C0.out _).mono ?_
  rintro e w' ⟨rfl, rfl⟩
  go_wp2_with fail
  refine (C1.out _).mono ?_
  rintro e w' ⟨rfl, rfl⟩
  go_wp2_with fail
  refine (P0.out _).mono ?_
  rintro e w1 ⟨a, rfl, n1⟩
  have NA1 := Lib.hid n1
  clear n1
  go_wp2_with fail
  refine (P1.out _).mono ?_
  rintro e w2 ⟨b, rfl, n2⟩
  have NA2 := Lib.hid (NA1.out.then_below n2.below)
  have NB2 := Lib.hid (n2.after NA1.out.below)
  clear n2 NA1
  go_wp2_with fail
  refine (T0.out _).mono ?_
  rintro e w3 ⟨c, rfl, n3⟩
  have NA3 := Lib.hid (NA2.out.then_below n3.below)
  have NB3 := Lib.hid (NB2.out.then_below n3.below)
  have NC3 := Lib.hid (n3.after NA2.out.below)
  clear n3 NA2 NB2
  go_wp2_with fail
  refine (T1.out _).mono ?_
  rintro e w4 ⟨d, rfl, n4⟩
  have NA4 := Lib.hid (NA3.out.then_below n4.below)
  have NB4 := Lib.hid (NB3.out.then_below n4.below)
  have NC4 := Lib.hid (NC3.out.then_below n4.below)
  have ND4 := Lib.hid (n4.after NA3.out.below)
  clear n4 NA3 NB3 NC3
  go_wp2_with fail
  refine (awake6_any _).mono ?_
  rintro e w5 ⟨rfl, hb⟩
  have NA5 := Lib.hid (NA4.out.then_below hb)
  have NB5 := Lib.hid (NB4.out.then_below hb)
  have NC5 := Lib.hid (NC4.out.then_below hb)
  have ND5 := Lib.hid (ND4.out.then_below hb)
  clear hb NA4 NB4 NC4 ND4
  go_wp2_with fail
  refine (I0.out _ _ _ NA5.out.slice NB5.out.slice).mono ?_
  rintro e w6 ⟨rfl, hb⟩
  have NC6 := Lib.hid (NC5.out.then_below hb)
  have ND6 := Lib.hid (ND5.out.then_below hb)
  clear hb NA5 NB5 NC5 ND5
  go_wp2_with fail
  refine (I1.out _ _ _ NC6.out.slice ND6.out.slice).mono ?_
  rintro e w7 ⟨rfl, hb⟩
  have ND7 := Lib.hid (ND6.out.then_below hb)
  clear hb NC6 ND6
  go_wp2_with fail
  go_ret
  exact ⟨rfl, ND7.out.below⟩

set_option maxHeartbeats 8000000 in
set_option maxRecDepth 100000 in
theorem labelReads_lifted (os : Os) (started : os.Started) (H : Type) (enc : TypeId × Value → H) :
    ReturnsInHanded {} Tryd.checked os 7 .any (fun w args => (Rows.labelReadsSpec.pre enc Tryd.prog Tryd.f7 [] false w args ∧ laidMetH Tryd.prog [("unicode/utf8.acceptRanges", Rows.laid_unicode_utf8_acceptRanges), ("unicode/utf8.first", Rows.laid_unicode_utf8_first)] w) ∧ sizedMet enc Tryd.prog Tryd.f7 (OpenSpec.ofChange Rows.labelReadsSpec) false w args)
      (Rows.labelReadsSpec.post enc Tryd.prog Tryd.f7 false true false false) := by
  refine returnsInHanded_of_change_and (C := Tryd.checked) (X := fun w _ => laidMetH Tryd.prog [("unicode/utf8.acceptRanges", Rows.laid_unicode_utf8_acceptRanges), ("unicode/utf8.first", Rows.laid_unicode_utf8_first)] w) (fun _ _ _ hh h => h.of_heap hh) law_own started (by kernel_rfl) Tryd.func7
    (ChangeSpec.witness_shaped (enc := enc) (C := Tryd.checked) (os := os) (X := fun w _ => laidMetH Tryd.prog [("unicode/utf8.acceptRanges", Rows.laid_unicode_utf8_acceptRanges), ("unicode/utf8.first", Rows.laid_unicode_utf8_first)] w) false (World.laidAll Tryd.prog os [("unicode/utf8.acceptRanges", Rows.laid_unicode_utf8_acceptRanges), ("unicode/utf8.first", Rows.laid_unicode_utf8_first)]) #[.string ByteArray.empty, .string ByteArray.empty] 8 (World.laidAll_os _ _ _)
      (World.shaped_of_ZipB (by kernel_rfl) (by kernel_rfl)) (by kernel_rfl) (by kernel_rfl) (by kernel_rfl) (door_met os _)) ?_
  intro W base args ds gs before hval0 hW _ _ hL _
  have hval : ∀ (j : Nat) t v, Tryd.f7.params[j]? = some t → args[j]? = some v → Value.okWide Tryd.prog W .any base t v := hval0
  have hW' := hW
  obtain ⟨p, q, hA0, hV, rfl, _, _⟩ := hW
  have hA : DataW.TrodAll enc Tryd.prog W 0 (fun _ => true) true Tryd.f7.params.toList args.toList ds p := hA0
  rw [Tryd.params7] at hA hval
  obtain ⟨v0, vs0, d0, ds0, p0, q0, hargs, rfl, rfl, h0, r0⟩ := trodAll_cons hA
  obtain ⟨v1, vs1, d1, ds1, p1, q1, rfl, rfl, rfl, h1, r1⟩ := trodAll_cons r0
  obtain ⟨rfl, rfl, rfl⟩ := trodAll_nil r1
  obtain rfl : args = #[v0, v1] := by cases args; simp_all
  obtain ⟨rfl, rfl⟩ := trodVars_none hV
  obtain ⟨a0, rfl, rfl, rfl, w0⟩ := open_string Tryd.underlying9 (hval 0 9 v0 rfl rfl) h0
  obtain ⟨a1, rfl, rfl, rfl, w1⟩ := open_string Tryd.underlying9 (hval 1 9 v1 rfl rfl) h1
  refine (labelReads_walk0 a0 w0 a1 w1 W  (of_laid hL)).mono fun e W' ⟨he, hb⟩ => ?_
  subst he
  exact ⟨_, rfl, law_post law_laid (by intro t ht; rw [Tryd.params7] at ht; simp only [List.mem_cons, List.not_mem_nil, or_false] at ht; rcases ht with rfl | rfl <;> exact ⟨by kernel_rfl, of_decide_eq_true (by kernel_rfl)⟩) rfl Tryd.underlying4 rfl rfl hW' hb⟩

theorem labelReads_holds : Rows.LabelReadsSaid :=
  OpenClaim.holds_of_wide 7 Tryd.f7 rfl rfl rfl rfl rfl rfl rfl ⟨rfl, rfl, rfl, rfl, rfl⟩ rfl rfl rfl rfl rfl (by kernel_rfl) Tryd.func7 (by kernel_rfl)
    (of_decide_eq_true (by kernel_rfl)) (by unfold Func.isWrapper; first | (rw [if_pos (by decide +kernel)]; kernel_rfl) | (rw [if_neg (by decide +kernel)]; exact ⟨rfl, rfl⟩))
    (fun os started H enc _ => labelReads_lifted os started H enc)

theorem labelReads_card : Rows.LabelReadsCardSaid :=
  Claim7.holds_tied_plain_at .later [] [.data, .pinned] true (true, "2d1145cbd28946932db5907653de828529f99ff6858137b0f836a60a01e5d84d") false
    labelReads_holds (fun _ h => by cases h) (by kernel_rfl) (fun _ h => by cases h) labelReads_row_tie rfl ⟨rfl, rfl⟩ (by kernel_rfl) rfl
    (fun f fn hf hfn => by
      obtain rfl : f = 7 := Option.some.inj ((show Tryd.prog.funcNamed "barograph/barographlaw06.LabelReads" = some 7 by kernel_rfl).symm.trans hf) |>.symm
      obtain rfl : fn = Tryd.f7 := (Option.some.inj (Tryd.func7.symm.trans hfn)).symm
      exact ⟨by kernel_rfl, fun j t ht => by
        rw [Tryd.params7] at ht
        rcases j with _ | j
        · obtain rfl : t = 9 := by simpa using ht.symm
          exact (show Tryd.prog.wantsStandIn 9 = false by kernel_rfl)
        rcases j with _ | j
        · obtain rfl : t = 9 := by simpa using ht.symm
          exact (show Tryd.prog.wantsStandIn 9 = false by kernel_rfl)
        simp at ht⟩)
    (by kernel_rfl)

end Go.Proofs.YtpjicajifdandaaDoor
