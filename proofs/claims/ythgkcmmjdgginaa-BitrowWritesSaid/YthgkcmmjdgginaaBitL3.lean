/-
  Layer 3: BitrowWrites: things are written as the page says.
-/
import Derived.Test.YthgkcmmjdgginaaBitQ
import Derived.Test.YthgkcmmjdgginaaRows
namespace Go.Proofs.Ythgkcmmjdgginaa
open Go.RowKit Go.Bar Go.Bar.Bit Go.ChangeShapes Go.WideShapes Go.ChangeAt
open Go.ChangeMaps (open_string shut_string)

theorem law_own : ownKnob Try.prog.godebug = none := by kernel_rfl
theorem law_laid : laidOutB Try.prog = true := by kernel_rfl

set_option maxHeartbeats 1000000 in
set_option maxRecDepth 10000 in
theorem bitrowWrites_walk0 (vt : Value) (ts : List Th) (w : World) (ht : ThingsAt w vt ts) :
    Calls Try.prog 3 #[vt] w (RetBelow w (.bool true)) := by
  obtain ⟨A, c, rfl, hlen⟩ := ht.shape
  have h0 := RowNew.start (Below.refl _ w) 25
  have h0 := h0.then_below ((Below.refl _ _).alloc (Nat.le_refl _) (.cells #[] 4))
  have h0 : WSt w ((w.alloc (.cells #[.slice none 0 0, .int .i64 0] 25)).alloc (.cells #[] 4)) w.heap.size (.slice none 0 0) (.slice (some ⟨w.heap.size + 1, 0, none⟩) 0 0) [] [] :=
    ⟨h0, ⟨rfl, _, 0, rfl, Nat.le_refl _, by decide, fun h => by omega⟩, fun k ⟨o, n, c, h, hc⟩ => by injection h with _ _ h; omega, fun k _ h => by simp [Value.ownBlock] at h⟩
  go_enter Try.func3, Try.ntmps3
  go_wp2_with fail
  refine (awake_any _).mono ?_
  rintro e w1 ⟨rfl, hb1⟩
  have h0 := h0.below hb1
  clear hb1
  go_wp2_with fail
  go_loopw [4, 5] (fun va i wr => ∃ (k : Nat) (v : Value) (l : List Bool), k ≤ ts.length ∧ k ≤ 20 ∧ i = .int .i64 k ∧ WSt w wr w.heap.size v va l l ∧ l = allBits ts k) (fun _ i _ => 20 - (intOf i).toNat)
  case atStart => exact ⟨0, _, [], Nat.zero_le _, by omega, rfl, h0, by simp [allBits]⟩
  case round =>
    obtain ⟨k, v, l, hk, hk20, rfl, hst, hl⟩ := hrel
    have hll : l.length ≤ 2000 := by rw [hl]; have := allBits_le ts k; omega
    have HL := Lib.hid hl
    clear hl h0
    by_cases hk1 : k < ts.length
    · by_cases hk2 : k < 20
      · obtain ⟨t, hti⟩ : ∃ t, ts[k]? = some t := ⟨_, List.getElem?_eq_getElem hk1⟩
        have hok := ht.ok t (List.mem_of_getElem? hti)
        obtain ⟨b0, o0, c', he, c0, c1, c2, c3, c4⟩ := (ht.cells k t hti)
        injection he with e1 e2 e3
        subst e1; subst e3
        have hf : Fr (fun _ _ => False) w wr := Fr.of_below hst.row.below
        have d0 := hf.cell c0 id
        have d1 := hf.cell c1 id
        have d2 := hf.cell c2 id
        have d3 := hf.cell c3 id
        have d4 := hf.cell c4 id
        clear c0 c1 c2 c3 c4 hf
        have HI := Lib.hid hti
        clear hti
        go_wp2_with fail
        refine (small_any t _).mono ?_
        rintro e w2 ⟨rfl, hb2⟩
        have hst := hst.below hb2
        clear hb2 d0 d1 d2 d3 d4
        go_wp2_with fail
        refine (put_any t.small (Th.small_ok hok) (by simp only [Th.small]; omega) _ v l _ hst.row.at_ (by omega)).mono ?_
        rintro e w3 h3
        obtain ⟨s, v3, rfl, hs, h3⟩ := hst.put h3
        have hbl := bits_le t
        obtain ⟨m, hm⟩ : ∃ m, m = t.small.bits := ⟨_, rfl⟩
        rw [← hm] at hs h3 hbl
        have HM := Lib.hid hm
        clear hm hst
        have hss := hs.src (t := 26) Try.underlying26 (bls_one m)
        have hsl := h3.all
        have H3 := Lib.hid h3
        clear h3 hs
        go_wp2_with (at_builtin; refine wpList_append_el rfl (.tmp 19) (.tmp 25) 26 26 rfl bools_ty rfl hsl rfl hss (by simp only [maxLen]; omega) (by omega) ?_; intro va' w4 hb4 ha4 hg4; have h4 := H3.out.more hb4 ha4 hg4)
        clear hb4 ha4 hg4 hss hsl
        obtain ⟨l4, hl4⟩ : ∃ l4, l4 = l ++ m := ⟨_, rfl⟩
        rw [← hl4] at h4
        have hl5 : l4 = allBits ts (k + 1) := by rw [hl4, HM.out, allBits_next HI.out, ← HL.out]
        have HN := Lib.hid hl5
        clear hl4 hl5
        obtain ⟨A4, c4, rfl, _⟩ := Buf.shape h4.all
        refine (rowLen_any _ 0 _ _ _ h4.row.at_).mono ?_
        rintro e w' ⟨rfl, rfl⟩
        go_wp2_with fail
        go_roundw
        case rel => exact ⟨k + 1, v3, l4, by omega, by omega, by go_num, h4, HN.out⟩
        case measure => simp [intOf]; omega
      · obtain ⟨A4, c4, rfl, _⟩ := Buf.shape hst.all
        go_wp2_with fail
        refine (rowText_any _ 0 _ _ _ hst.row.at_).mono ?_
        rintro e w' ⟨rfl, rfl⟩
        go_wp2_with fail
        refine (refText_any _ l _ (by omega) hst.all).mono ?_
        rintro e w5 ⟨rfl, hb5⟩
        go_wp2_with fail
        go_ret
        exact ⟨rfl, hst.row.below.trans (hb5.mono hst.row.below.size)⟩
    · obtain ⟨A4, c4, rfl, _⟩ := Buf.shape hst.all
      go_wp2_with fail
      refine (rowText_any _ 0 _ _ _ hst.row.at_).mono ?_
      rintro e w' ⟨rfl, rfl⟩
      go_wp2_with fail
      refine (refText_any _ l _ (by omega) hst.all).mono ?_
      rintro e w5 ⟨rfl, hb5⟩
      go_wp2_with fail
      go_ret
      exact ⟨rfl, hst.row.below.trans (hb5.mono hst.row.below.size)⟩

set_option maxRecDepth 100000 in
theorem bitrowWrites_lifted (os : Os) (started : os.Started) (H : Type) (enc : TypeId × Value → H) :
    ReturnsInHanded {} Try.checked os 3 .any (Rows.bitrowWritesSpec.pre6 enc Try.prog Try.f3 Rows.bitrowWritesRow.domain false) (Rows.bitrowWritesSpec.post enc Try.prog Try.f3 false true false false) := by
  refine returnsInHanded_of_change_sized (C := Try.checked) law_own started (by kernel_rfl) Try.func3
    (ChangeSpec.witness6 (enc := enc) (C := Try.checked) false ⟨#[], #[.slice none 0 0], []⟩ 8 (by kernel_rfl) (by kernel_rfl) (by kernel_rfl) (by kernel_rfl)) ?_
  intro W base args ds gs before hval0 hW _ hsz0 _
  have hval : ∀ (j : Nat) t v, Try.f3.params[j]? = some t → args[j]? = some v → Value.okWide Try.prog W .any base t v := hval0
  have hsz : (DataW.weightsEach Try.prog (Try.f3.params.toList ++ Rows.bitrowWritesSpec.plain.varTypes Try.prog) (ds ++ gs)).all (· ≤ reachBytes) = true := hsz0
  have hW' := hW
  obtain ⟨p, q, hA0, hV, rfl, _, _⟩ := hW
  have hA : DataW.TrodAll enc Try.prog W 0 (fun _ => true) true Try.f3.params.toList args.toList ds p := hA0
  rw [Try.params3] at hA hval hsz
  obtain ⟨v0, vs0, d0, ds0, p0, q0, hargs, rfl, rfl, h0, r0⟩ := trodAll_cons hA
  obtain ⟨rfl, rfl, rfl⟩ := trodAll_nil r0
  obtain rfl : args = #[v0] := by cases args; simp_all
  obtain ⟨rfl, rfl⟩ := trodVars_none hV
  obtain ⟨ts, hts⟩ := open_things (hval 0 22 v0 rfl rfl) h0
  refine (bitrowWrites_walk0 v0 ts W hts).mono fun e W' ⟨he, hb⟩ => ?_
  subst he
  exact ⟨_, rfl, law_post law_laid (by intro t ht; rw [Try.params3] at ht; simp only [List.mem_cons, List.not_mem_nil, or_false] at ht; rcases ht with rfl <;> exact ⟨by kernel_rfl, of_decide_eq_true (by kernel_rfl)⟩) rfl Try.underlying4 rfl rfl hW' hb⟩

theorem bitrowWrites_holds : Rows.BitrowWritesSaid :=
  OpenClaim.holds_of_wide 3 Try.f3 rfl rfl rfl rfl rfl rfl rfl ⟨rfl, rfl, rfl, rfl, rfl⟩ rfl rfl rfl rfl rfl (by kernel_rfl) Try.func3 (by kernel_rfl)
    (of_decide_eq_true (by kernel_rfl)) (by unfold Func.isWrapper; first | (rw [if_pos (by decide +kernel)]; kernel_rfl) | (rw [if_neg (by decide +kernel)]; exact ⟨rfl, rfl⟩))
    (fun os started H enc _ => bitrowWrites_lifted os started H enc)

end Go.Proofs.Ythgkcmmjdgginaa
