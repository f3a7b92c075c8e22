/-
  Layer 3: BitrowTakes: any bits are taken as any things.
-/
import Derived.Test.YthgkcmmjdgginaaBitK
import Derived.Test.YthgkcmmjdgginaaCut
import Derived.Test.YthgkcmmjdgginaaRows
namespace Go.Proofs.Ythgkcmmjdgginaa
open Go.RowKit Go.Bar Go.Bar.Bit Go.ChangeShapes Go.WideShapes Go.ChangeAt
open Go.ChangeMaps (open_string shut_string)

theorem law_own : ownKnob Try.prog.godebug = none := by kernel_rfl
theorem law_laid : laidOutB Try.prog = true := by kernel_rfl

/-- an eye and its bits, apart from each other -/
structure EB (W w : World) (be : Nat) (v : Value) (L : List Bool) (p e : Nat) : Prop where
  eye : EyeNew W w be L p e
  all : BoolsIn w v L
  own : v.ownBlock ≠ some be
theorem EB.below {W w w' : World} {be p e : Nat} {v : Value} {L : List Bool} (h : EB W w be v L p e) (hb : Below w.heap.size w w') : EB W w' be v L p e := by
  have hf : Fr (fun _ _ => False) w w' := Fr.of_below hb
  exact ⟨h.eye.then_below hb, h.all.keep hf (fun _ _ _ => id), h.own⟩
theorem EB.fr {W w w' : World} {be p e p' e' : Nat} {v : Value} {L : List Bool} (h : EB W w be v L p e) (ha : EyeAt w' be 0 L p' e') (hf : Fr (EyeS be 0) w w') : EB W w' be v L p' e' := by
  refine ⟨⟨ha, h.eye.below.trans (hf.below h.eye.below.size ?_), h.eye.b_new⟩, h.all.keep hf ?_, h.own⟩
  · rintro k i hk ⟨rfl, _⟩; have := h.eye.b_new; omega
  · rintro k i hk ⟨e1, _⟩; exact h.own (by rw [hk, e1])
theorem EB.step {W w w' : World} {be p e p' e' : Nat} {v x : Value} {L : List Bool} (h : EB W w be v L p e) {en : Ending} (h' : EyeTo w be 0 L x p' e' en w') : en = .returned x ∧ EB W w' be v L p' e' := ⟨h'.1, h.fr h'.2.1 h'.2.2⟩
theorem bools_in {w : World} {v : Value} {l : List Bool} (h : Buf w 4 1 v l.length (bls l)) : BoolsIn w v l := by
  have hs := Buf.shape h
  obtain ⟨A, c, rfl, hc⟩ := hs
  refine ⟨⟨A, c, rfl, hc⟩, fun i x hi => ?_⟩
  have hil := (List.getElem?_eq_some_iff.1 hi).1
  obtain ⟨b, o, c', he, _, _, hcell, _⟩ := Buf.at_ h (by omega)
  refine ⟨b, o, c', he, ?_⟩
  rw [hcell i hil]
  unfold bls
  rw [List.getElem?_map, hi]
  rfl
theorem bad_bit (L : List Bool) (p : Nat) : eyeBit L p 2 = (false, p, 2) := by unfold eyeBit; rw [if_pos (by omega)]
theorem bad_bits (L : List Bool) (p : Nat) (n : Int) : eyeBits L p 2 n = (0, p, 2) := by unfold eyeBits; rw [if_pos (by omega)]
theorem bad_unary (L : List Bool) (p : Nat) (m : Int) : eyeUnary L p 2 m = (0, p, 2) := by unfold eyeUnary; rw [if_pos (by omega)]

set_option maxHeartbeats 2000000 in
set_option maxRecDepth 10000 in
theorem bitrowTakes_walk0 (s0 : ByteArray) (hs0 : s0.size ≤ maxLen) (n : Int) (hn : (Lit.int .i64 n).wf = true) (vt : Value) (ts : List Th) (w : World) (ht : ThingsAt w vt ts) :
    Calls Try.prog 6 #[.string s0, .int .i64 n, vt] w (RetBelow w (.bool true)) := by
  have hn := bounds_i64 hn
  obtain ⟨A, c, rfl, hlen⟩ := ht.shape
  obtain ⟨s, hs⟩ : ∃ s, s = s0.data.toList.take 60 := ⟨_, rfl⟩
  have hsl : s.length ≤ 60 := by rw [hs]; exact List.length_take_le _ _
  have HS := Lib.hid hs
  obtain ⟨L, hL⟩ : ∃ L, L = (unpack s).take (clipTo n (8 * s.length)) := ⟨_, rfl⟩
  have hLl : L.length ≤ 480 := by rw [hL]; refine Nat.le_trans (List.length_take_le' _ _) ?_; rw [unpack_length]; omega
  have HL := Lib.hid hL
  clear hs hL
  go_enter Try.func6, Try.ntmps6
  go_wp2_with fail
  refine (cut_any s0 60 _ (by omega) (by omega) hs0).mono ?_
  rintro e w' ⟨rfl, rfl⟩
  rw [show ((60 : Int)).toNat = 60 from rfl, ← HS.out]
  go_wp2_with fail
  refine (over_any s n _ hn.1 hn.2 (by omega)).mono ?_
  rintro e w1 ⟨rfl, h1, hb1⟩
  rw [← HL.out] at h1
  have h1 := EyeNew.start (Below.refl _ w) h1 hb1
  have hbe := World.block_lt_of_cell? _ _ h1.at_.c1
  simp only at hbe
  clear hb1
  go_wp2_with fail
  refine (refOf_any s n _ hn.1 hn.2 (by omega)).mono ?_
  rintro e w2 ⟨va, rfl, h2, hb2⟩
  rw [← HL.out] at h2
  have h2 : EB w w2 w.heap.size va L 0 0 := ⟨h1.then_below hb2, bools_in h2.buf, fun hv => by have := h2.new _ hv; omega⟩
  clear h1 hb2
  go_wp2_with fail
  refine (awake_any _).mono ?_
  rintro e w3 ⟨rfl, hb3⟩
  have h3 := h2.below hb3
  clear h2 hb3
  go_wp2_with fail
  refine (eyeLeft_any _ 0 _ 0 0 _ h3.eye.at_ (by omega)).mono ?_
  rintro e w4 ⟨rfl, n4, rfl⟩
  have h4 := h3.below (below_draws _ n4)
  clear h3
  obtain ⟨Aa, ca, rfl, hca⟩ := h4.all.shape
  go_wp2_with fail
  go_loopw [9, 10] (fun a i wr => ∃ (k p : Nat), k ≤ ts.length ∧ k ≤ 20 ∧ i = .int .i64 k ∧ a = .int .i64 p ∧ EB w wr w.heap.size (.slice Aa L.length ca) L p 0) (fun _ i _ => 20 - (intOf i).toNat)
  case atStart => exact ⟨0, 0, Nat.zero_le _, by omega, rfl, rfl, h4⟩
  case round =>
    obtain ⟨k, p, hk, hk20, rfl, rfl, hst⟩ := hrel
    clear h4
    have hpl := hst.eye.at_.le
    by_cases hk1 : k < ts.length
    · by_cases hk2 : k < 20
      · obtain ⟨t, hti⟩ : ∃ t, ts[k]? = some t := ⟨_, List.getElem?_eq_getElem hk1⟩
        have hok := ht.ok t (List.mem_of_getElem? hti)
        obtain ⟨b0, o0, c', he, c0, c1, c2, c3, c4⟩ := (ht.cells k t hti)
        injection he with e1 e2 e3
        subst e1; subst e3
        have hf : Fr (fun _ _ => False) w wr := Fr.of_below hst.eye.below
        have d0 := hf.cell c0 id
        have d1 := hf.cell c1 id
        have d2 := hf.cell c2 id
        have d3 := hf.cell c3 id
        have d4 := hf.cell c4 id
        clear c0 c1 c2 c3 c4 hf hti
        go_wp2_with fail
        refine (small_any t _).mono ?_
        rintro e w5 ⟨rfl, hb5⟩
        have hst := hst.below hb5
        clear hb5 d0 d1 d2 d3 d4
        go_wp2_with fail
        refine (take_any t.small (Th.small_ok hok) (by simp only [Th.small]; omega) _ _ L p _ hst.eye.at_ hst.all hst.own (by omega)).mono ?_
        rintro e w6 ⟨p', e', at', rfl, hcase, ha6, hf6⟩
        have h6 := hst.fr ha6 hf6
        have hpl := h6.eye.at_.le
        clear hst ha6 hf6
        rcases hcase with ⟨rfl, rfl⟩ | rfl
        · rw [show ((0 : Nat) == 2) = false from rfl]
          go_wp2_with fail
          refine (eyeErr_any _ 0 _ _ 0 _ h6.eye.at_).mono ?_
          rintro e w' ⟨rfl, rfl⟩
          go_wp2_with fail
          refine (eyeLeft_any _ 0 _ _ 0 _ h6.eye.at_ (by omega)).mono ?_
          rintro e w7 ⟨rfl, n7, rfl⟩
          have h7 := h6.below (below_draws _ n7)
          clear h6
          go_wp2_with fail
          refine (eyeErr_any _ 0 _ _ 0 _ h7.eye.at_).mono ?_
          rintro e w' ⟨rfl, rfl⟩
          go_wp2_with fail
          go_roundw
          case rel => exact ⟨k + 1, at', by omega, by omega, by go_num, rfl, h7⟩
          case measure => simp [intOf]; omega
        · rw [show ((2 : Nat) == 2) = true from rfl]
          go_wp2_with fail
          refine (eyeErr_any _ 0 _ _ 2 _ h6.eye.at_).mono ?_
          rintro e w' ⟨rfl, rfl⟩
          go_wp2_with fail
          refine (eyeBit_any _ 0 L _ 2 _ h6.eye.at_ (by omega)).mono ?_
          rintro e w7 g7
          obtain ⟨rfl, h7⟩ := h6.step g7
          rw [bad_bit] at h7 ⊢
          simp only [] at h7
          clear g7 h6
          go_wp2_with fail
          refine (eyeBits_any _ 0 L _ 2 5 _ h7.eye.at_ (by omega) (by omega) (by omega)).mono ?_
          rintro e w8 g8
          obtain ⟨rfl, h8⟩ := h7.step g8
          rw [bad_bits] at h8 ⊢
          simp only [] at h8
          clear g8 h7
          go_wp2_with fail
          refine (eyeUnary_any _ 0 L _ 2 3 _ h8.eye.at_ (by omega) (by omega)).mono ?_
          rintro e w9 g9
          obtain ⟨rfl, h9⟩ := h8.step g9
          rw [bad_unary] at h9 ⊢
          simp only [] at h9
          clear g9 h8
          go_wp2_with fail
          refine (eyeErr_any _ 0 _ _ 2 _ h9.eye.at_).mono ?_
          rintro e w' ⟨rfl, rfl⟩
          go_wp2_with fail
          go_ret
          exact ⟨rfl, h9.eye.below⟩
      · go_wp2_with fail
        go_ret
        exact ⟨rfl, hst.eye.below⟩
    · go_wp2_with fail
      go_ret
      exact ⟨rfl, hst.eye.below⟩

set_option maxRecDepth 100000 in
theorem bitrowTakes_lifted (os : Os) (started : os.Started) (H : Type) (enc : TypeId × Value → H) :
    ReturnsInHanded {} Try.checked os 6 .any (Rows.bitrowTakesSpec.pre6 enc Try.prog Try.f6 Rows.bitrowTakesRow.domain false) (Rows.bitrowTakesSpec.post enc Try.prog Try.f6 false true false false) := by
  refine returnsInHanded_of_change_sized (C := Try.checked) law_own started (by kernel_rfl) Try.func6
    (ChangeSpec.witness6 (enc := enc) (C := Try.checked) false ⟨#[], #[.string ByteArray.empty, .int .i64 0, .slice none 0 0], []⟩ 8 (by kernel_rfl) (by kernel_rfl) (by kernel_rfl) (by kernel_rfl)) ?_
  intro W base args ds gs before hval0 hW _ hsz0 _
  have hval : ∀ (j : Nat) t v, Try.f6.params[j]? = some t → args[j]? = some v → Value.okWide Try.prog W .any base t v := hval0
  have hsz : (DataW.weightsEach Try.prog (Try.f6.params.toList ++ Rows.bitrowTakesSpec.plain.varTypes Try.prog) (ds ++ gs)).all (· ≤ reachBytes) = true := hsz0
  have hW' := hW
  obtain ⟨p, q, hA0, hV, rfl, _, _⟩ := hW
  have hA : DataW.TrodAll enc Try.prog W 0 (fun _ => true) true Try.f6.params.toList args.toList ds p := hA0
  rw [Try.params6] at hA hval hsz
  obtain ⟨v0, vs0, d0, ds0, p0, q0, hargs, rfl, rfl, h0, r0⟩ := trodAll_cons hA
  obtain ⟨v1, vs1, d1, ds1, p1, q1, rfl, rfl, rfl, h1, r1⟩ := trodAll_cons r0
  obtain ⟨v2, vs2, d2, ds2, p2, q2, rfl, rfl, rfl, h2, r2⟩ := trodAll_cons r1
  obtain ⟨rfl, rfl, rfl⟩ := trodAll_nil r2
  obtain rfl : args = #[v0, v1, v2] := by cases args; simp_all
  obtain ⟨rfl, rfl⟩ := trodVars_none hV
  obtain ⟨a0, rfl, rfl, rfl, w0⟩ := open_string Try.underlying9 (hval 0 9 v0 rfl rfl) h0
  obtain ⟨a1, rfl, rfl, rfl, w1⟩ := open_int Try.underlying3 (hval 1 3 v1 rfl rfl) h1
  obtain ⟨ts2, hts2⟩ := open_things (hval 2 22 v2 rfl rfl) h2
  refine (bitrowTakes_walk0 a0 w0 a1 w1 v2 ts2 W hts2).mono fun e W' ⟨he, hb⟩ => ?_
  subst he
  exact ⟨_, rfl, law_post law_laid (by intro t ht; rw [Try.params6] at ht; simp only [List.mem_cons, List.not_mem_nil, or_false] at ht; rcases ht with rfl | rfl | rfl <;> exact ⟨by kernel_rfl, of_decide_eq_true (by kernel_rfl)⟩) rfl Try.underlying4 rfl rfl hW' hb⟩

theorem bitrowTakes_holds : Rows.BitrowTakesSaid :=
  OpenClaim.holds_of_wide 6 Try.f6 rfl rfl rfl rfl rfl rfl rfl ⟨rfl, rfl, rfl, rfl, rfl⟩ rfl rfl rfl rfl rfl (by kernel_rfl) Try.func6 (by kernel_rfl)
    (of_decide_eq_true (by kernel_rfl)) (by unfold Func.isWrapper; first | (rw [if_pos (by decide +kernel)]; kernel_rfl) | (rw [if_neg (by decide +kernel)]; exact ⟨rfl, rfl⟩))
    (fun os started H enc _ => bitrowTakes_lifted os started H enc)


end Go.Proofs.Ythgkcmmjdgginaa
