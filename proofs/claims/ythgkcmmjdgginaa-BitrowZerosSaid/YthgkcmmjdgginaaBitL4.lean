/-
  Layer 3: BitrowZeros: behind the last bit there are zeros.
-/
import Derived.Test.YthgkcmmjdgginaaBitQ
import Derived.Test.YthgkcmmjdgginaaBitP
import Derived.Test.YthgkcmmjdgginaaRows
namespace Go.Proofs.Ythgkcmmjdgginaa
open Go.RowKit Go.Bar Go.Bar.Bit Go.ChangeShapes Go.WideShapes Go.ChangeAt
open Go.ChangeMaps (open_string shut_string)

theorem law_own : ownKnob Try.prog.godebug = none := by kernel_rfl
theorem law_laid : laidOutB Try.prog = true := by kernel_rfl

/-- a row and an eye, apart from each other -/
structure RE (W w : World) (b : Nat) (v : Value) (l : List Bool) (c : Nat) (L : List Bool) (p e : Nat) : Prop where
  row : RowNew W w b v l
  eye : EyeNew W w c L p e
  ne : b ≠ c
  sep : v.ownBlock ≠ some c
theorem RE.start {W w w' : World} {b : Nat} {v : Value} {l L : List Bool} (h : RowNew W w b v l) (ha : EyeAt w' w.heap.size 0 L 0 0) (hb : Below w.heap.size w w') : RE W w' b v l w.heap.size L 0 0 := by
  have hbl := World.block_lt_of_cell? _ _ h.at_.c0
  simp only at hbl
  exact ⟨h.then_below hb, EyeNew.start h.below ha hb, by omega, fun hv => by have := h.at_.lt _ hv; omega⟩
theorem RE.below {W w w' : World} {b c p e : Nat} {v : Value} {l L : List Bool} (h : RE W w b v l c L p e) (hb : Below w.heap.size w w') : RE W w' b v l c L p e := ⟨h.row.then_below hb, h.eye.then_below hb, h.ne, h.sep⟩
theorem RE.step {W w w' : World} {b c p e p' e' : Nat} {v x : Value} {l L : List Bool} (h : RE W w b v l c L p e) {en : Ending} (h' : EyeTo w c 0 L x p' e' en w') : en = .returned x ∧ RE W w' b v l c L p' e' := by
  obtain ⟨he, hn⟩ := h.eye.step h'
  refine ⟨he, ⟨h.row.at_.keep h'.2.2 ?_ ?_, hn.below, h.row.b_new, h.row.v_new⟩, hn, h.ne, h.sep⟩
  · rintro i ⟨e1, _⟩; exact h.ne e1
  · rintro k i hk ⟨e1, _⟩; exact h.sep (by rw [hk, e1])

theorem zeros_eye (l L : List Bool) (h : L = unpack (pack l)) : eyeBits L l.length 0 ((L.length : Int) - (l.length : Int)) = (0, L.length, 0) := by
  have hl : L.length = 8 * ((l.length + 7) / 8) := by rw [h, unpack_pack_length]
  have hc : clip ((L.length : Int) - (l.length : Int)) = L.length - l.length := by unfold clip; omega
  unfold eyeBits
  rw [if_neg (by omega), hc, if_neg (by omega), h, zeros_num, ← h]
  congr 2
  omega
theorem eyeBit_in (L : List Bool) (p : Nat) (h : p < L.length) : eyeBit L p 0 = (L.getD p false, p + 1, 0) := by
  unfold eyeBit
  rw [if_neg (by omega), if_pos h]
theorem over_all (s : List UInt8) : (unpack s).take (clipTo (8 * (s.length : Int)) (8 * s.length)) = unpack s := by
  rw [List.take_of_length_le]
  rw [unpack_length]
  unfold clipTo
  omega

set_option maxHeartbeats 1000000 in
set_option maxRecDepth 10000 in
theorem bitrowZeros_walk0 (vt : Value) (ts : List Th) (w : World) (ht : ThingsAt w vt ts) :
    Calls Try.prog 8 #[vt] w (RetBelow w (.bool true)) := by
  obtain ⟨A, c, rfl, hlen⟩ := ht.shape
  have h0 := RowNew.start (Below.refl _ w) 25
  go_enter Try.func8, Try.ntmps8
  go_wp2_with fail
  go_loopw [4] (fun i wr => ∃ (k : Nat) (v : Value) (l : List Bool), k ≤ ts.length ∧ k ≤ 20 ∧ i = .int .i64 k ∧ RowNew w wr w.heap.size v l ∧ l.length ≤ 100 * k) (fun i _ => 20 - (intOf i).toNat)
  case atStart => exact ⟨0, _, [], Nat.zero_le _, by omega, rfl, h0, by simp⟩
  case round =>
    obtain ⟨k, v, l, hk, hk20, rfl, hst, hll⟩ := hrel
    clear h0
    by_cases hgo : k < ts.length ∧ k < 20
    · obtain ⟨hk1, hk2⟩ := hgo
      obtain ⟨t, hti⟩ : ∃ t, ts[k]? = some t := ⟨_, List.getElem?_eq_getElem hk1⟩
      have hok := ht.ok t (List.mem_of_getElem? hti)
      obtain ⟨b0, o0, c', he, c0, c1, c2, c3, c4⟩ := (ht.cells k t hti)
      injection he with e1 e2 e3
      subst e1; subst e3
      have hf : Fr (fun _ _ => False) w wr := Fr.of_below hst.below
      have d0 := hf.cell c0 id
      have d1 := hf.cell c1 id
      have d2 := hf.cell c2 id
      have d3 := hf.cell c3 id
      have d4 := hf.cell c4 id
      clear c0 c1 c2 c3 c4 hf hti
      go_wp2_with fail
      refine (small_any t _).mono ?_
      rintro e w2 ⟨rfl, hb2⟩
      have hst := hst.then_below hb2
      clear hb2 d0 d1 d2 d3 d4
      go_wp2_with fail
      refine (put_any t.small (Th.small_ok hok) (by simp only [Th.small]; omega) _ v l _ hst.at_ (by omega)).mono ?_
      rintro e w3 ⟨s, v3, rfl, hs, h3⟩
      have h4 := hst.of_ch h3
      have hbl := bits_le t
      clear hs h3
      go_wp2_with fail
      go_roundw
      case rel => exact ⟨k + 1, v3, l ++ t.small.bits, by omega, by omega, by go_num, h4, by rw [List.length_append]; omega⟩
      case measure => simp [intOf]; omega
    · have hend : ts.length ≤ k ∨ (k < ts.length ∧ 20 ≤ k) := by omega
      have hl2 : l.length ≤ 2000 := by omega
      clear hgo
      have hpl := pack_length l
      obtain ⟨s, hs⟩ : ∃ s, s = pack l := ⟨_, rfl⟩
      rw [← hs] at hpl
      have hp1 : 8 * s.length ≤ l.length + 7 := by omega
      have hp2 : l.length + 7 < 8 * s.length + 8 := by omega
      obtain ⟨L, hL⟩ : ∃ L, L = unpack s := ⟨_, rfl⟩
      have hLl : L.length = 8 * s.length := by rw [hL, unpack_length]
      have hz := zeros_eye l L (by rw [hL, hs])
      have hov := (over_all s).trans hL.symm
      have HS := Lib.hid hs
      have HL := Lib.hid hL
      have HO := Lib.hid hov
      have HZ := Lib.hid hz
      have hL1 : L.length ≤ 8 * s.length := by omega
      have hL2 : 8 * s.length ≤ L.length := by omega
      clear hpl hs hL hz hov hLl
      rcases hend with hend | ⟨hend1, hend⟩
      all_goals
        go_wp2_with fail
        refine (rowText_any _ 0 _ _ _ hst.at_).mono ?_
        rintro e w' ⟨rfl, rfl⟩
        rw [← HS.out]
        go_wp2_with fail
        refine (over_any s _ _ (by omega) (by omega) (by omega)).mono ?_
        rintro e w1 ⟨rfl, h1, h2⟩
        rw [HO.out] at h1
        have h1 := RE.start hst h1 h2
        clear h2
        go_wp2_with fail
        refine (awake_any _).mono ?_
        rintro e w2 ⟨rfl, hb2⟩
        have h1 := h1.below hb2
        clear hb2
        go_wp2_with fail
        refine (rowLen_any _ 0 _ _ _ h1.row.at_).mono ?_
        rintro e w' ⟨rfl, rfl⟩
        go_wp2_with fail
        go_loopw [7] (fun i wq => ∃ p : Nat, p ≤ l.length ∧ i = .int .i64 p ∧ RE w wq w.heap.size v l wr.heap.size L p 0) (fun i _ => l.length - (intOf i).toNat)
        case atStart => exact ⟨0, Nat.zero_le _, rfl, h1⟩
        case round =>
          obtain ⟨p, hp, rfl, hre⟩ := hrel
          clear h1
          by_cases hpl : p < l.length
          · go_wp2_with fail
            refine (rowLen_any _ 0 _ _ _ hre.row.at_).mono ?_
            rintro e w' ⟨rfl, rfl⟩
            go_wp2_with fail
            refine (eyeBit_any _ 0 _ p 0 _ hre.eye.at_ (by omega)).mono ?_
            rintro e w3 g3
            obtain ⟨rfl, h3⟩ := hre.step g3
            rw [eyeBit_in L p (by omega)] at h3 ⊢
            clear g3
            go_wp2_with fail
            go_roundw
            case rel => exact ⟨p + 1, by omega, by go_num, h3⟩
            case measure => simp [intOf]; omega
          · obtain rfl : p = l.length := by omega
            go_wp2_with fail
            refine (rowLen_any _ 0 _ _ _ hre.row.at_).mono ?_
            rintro e w' ⟨rfl, rfl⟩
            go_wp2_with fail
            refine (eyeLeft_any _ 0 _ l.length 0 _ hre.eye.at_ (by omega)).mono ?_
            rintro e w3 ⟨rfl, n3, rfl⟩
            have hre := hre.below (below_draws _ n3)
            go_wp2_with fail
            refine (eyeBits_any _ 0 _ l.length 0 _ _ hre.eye.at_ (by omega) (by omega) (by omega)).mono ?_
            rintro e w4 g4
            obtain ⟨rfl, h4⟩ := hre.step g4
            rw [HZ.out] at h4 ⊢
            simp only [] at h4
            clear g4
            go_wp2_with fail
            refine (eyeErr_any _ 0 _ _ 0 _ h4.eye.at_).mono ?_
            rintro e w5 ⟨rfl, rfl⟩
            go_wp2_with fail
            go_ret
            exact ⟨rfl, h4.row.below⟩

set_option maxRecDepth 100000 in
theorem bitrowZeros_lifted (os : Os) (started : os.Started) (H : Type) (enc : TypeId × Value → H) :
    ReturnsInHanded {} Try.checked os 8 .any (Rows.bitrowZerosSpec.pre6 enc Try.prog Try.f8 Rows.bitrowZerosRow.domain false) (Rows.bitrowZerosSpec.post enc Try.prog Try.f8 false true false false) := by
  refine returnsInHanded_of_change_sized (C := Try.checked) law_own started (by kernel_rfl) Try.func8
    (ChangeSpec.witness6 (enc := enc) (C := Try.checked) false ⟨#[], #[.slice none 0 0], []⟩ 8 (by kernel_rfl) (by kernel_rfl) (by kernel_rfl) (by kernel_rfl)) ?_
  intro W base args ds gs before hval0 hW _ hsz0 _
  have hval : ∀ (j : Nat) t v, Try.f8.params[j]? = some t → args[j]? = some v → Value.okWide Try.prog W .any base t v := hval0
  have hsz : (DataW.weightsEach Try.prog (Try.f8.params.toList ++ Rows.bitrowZerosSpec.plain.varTypes Try.prog) (ds ++ gs)).all (· ≤ reachBytes) = true := hsz0
  have hW' := hW
  obtain ⟨p, q, hA0, hV, rfl, _, _⟩ := hW
  have hA : DataW.TrodAll enc Try.prog W 0 (fun _ => true) true Try.f8.params.toList args.toList ds p := hA0
  rw [Try.params8] at hA hval hsz
  obtain ⟨v0, vs0, d0, ds0, p0, q0, hargs, rfl, rfl, h0, r0⟩ := trodAll_cons hA
  obtain ⟨rfl, rfl, rfl⟩ := trodAll_nil r0
  obtain rfl : args = #[v0] := by cases args; simp_all
  obtain ⟨rfl, rfl⟩ := trodVars_none hV
  obtain ⟨ts0, hts0⟩ := open_things (hval 0 22 v0 rfl rfl) h0
  refine (bitrowZeros_walk0 v0 ts0 W hts0).mono fun e W' ⟨he, hb⟩ => ?_
  subst he
  exact ⟨_, rfl, law_post law_laid (by intro t ht; rw [Try.params8] at ht; simp only [List.mem_cons, List.not_mem_nil, or_false] at ht; rcases ht with rfl <;> exact ⟨by kernel_rfl, of_decide_eq_true (by kernel_rfl)⟩) rfl Try.underlying4 rfl rfl hW' hb⟩

theorem bitrowZeros_holds : Rows.BitrowZerosSaid :=
  OpenClaim.holds_of_wide 8 Try.f8 rfl rfl rfl rfl rfl rfl rfl ⟨rfl, rfl, rfl, rfl, rfl⟩ rfl rfl rfl rfl rfl (by kernel_rfl) Try.func8 (by kernel_rfl)
    (of_decide_eq_true (by kernel_rfl)) (by unfold Func.isWrapper; first | (rw [if_pos (by decide +kernel)]; kernel_rfl) | (rw [if_neg (by decide +kernel)]; exact ⟨rfl, rfl⟩))
    (fun os started H enc _ => bitrowZeros_lifted os started H enc)


end Go.Proofs.Ythgkcmmjdgginaa
