/-
  Layer 2: FrameReads: any bytes are the records that they are; any record's bytes; any sums.
-/
import Derived.Test.YtmnakjjhphoopaaFrmL
import Derived.Test.YtmnakjjhphoopaaRows
import Derived.Test.YtmnakjjhphoopaaLib5
import Derived.Deep.RegionWith
import Derived.Deep.DeepCutAuto
import Derived.Lib.SmallJoins
namespace Go.Proofs.Ytmnakjjhphoopaa
open Go.RowKit Go.Bar Go.Bar.Leb Go.Bar.Frm Go.ChangeShapes Go.WideShapes Go.ChangeAt
open Go.ChangeMaps (open_string shut_string)

attribute [local go_sem ↓] Go.wp_at_zero Go.wp_at_succ

set_option maxHeartbeats 4000000 in
set_option maxRecDepth 10000 in
theorem frameReads_walk1 (s0 : ByteArray) (hs0 : s0.size ≤ maxLen) (t0 : ByteArray) (ht0 : t0.size ≤ maxLen) (kd : UInt8) (d0 : ByteArray) (hd0 : d0.size ≤ maxLen) (W : World) :
    Calls Try.prog 5 #[.string s0, .string t0, .agg #[.int .u8 kd.toNat, .string d0]] W (RetBelow W (.bool true)) := by
  obtain ⟨l, hl⟩ : ∃ l, l = s0.data.toList.take 300 := ⟨_, rfl⟩
  have hlen : l.length ≤ 300 := by rw [hl]; exact List.length_take_le _ _
  obtain ⟨t, ht⟩ : ∃ l, l = t0.data.toList.take 100 := ⟨_, rfl⟩
  have htlen : t.length ≤ 100 := by rw [ht]; exact List.length_take_le _ _
  obtain ⟨d, hd⟩ : ∃ l, l = d0.data.toList.take 100 := ⟨_, rfl⟩
  have hdlen : d.length ≤ 100 := by rw [hd]; exact List.length_take_le _ _
  have HL := Lib.hid hl
  have HT := Lib.hid ht
  have HD := Lib.hid hd
  clear hl ht hd
  obtain ⟨k1, d1, r1, er, hn⟩ : ∃ k d r er, next l = ((k, d), r, er) := ⟨_, _, _, _, rfl⟩
  have HN := Lib.hid hn
  clear hn
  go_enter Try.func5, Try.ntmps5
  go_upto_region 1 with fail
  go_cut [0, 1] (fun s u wx => s = .string (bs l) ∧ u = .string (bs t) ∧ Below W.heap.size W wx ∧ W.heap.size < wx.heap.size ∧ wx.cell? ⟨W.heap.size, 0, none⟩ = some (.int .u8 kd.toNat) ∧ wx.cell? ⟨W.heap.size, 1, none⟩ = some (.string (bs d)))
  case first =>
    go_region_with (first
      | (go_at_call_of 18 (Value.string s0); refine (cut_any s0 300 _ (by omega) (by omega) hs0).mono ?_; rintro e w' ⟨rfl, rfl⟩; rw [show ((300 : Int)).toNat = 300 from rfl, ← HL.out])
      | (go_at_call_of 18 (Value.string t0); refine (cut_any t0 100 _ (by omega) (by omega) ht0).mono ?_; rintro e w' ⟨rfl, rfl⟩; rw [show ((100 : Int)).toNat = 100 from rfl, ← HT.out])
      | (go_at_call_of 18 (Value.string d0); refine (cut_any d0 100 _ (by omega) (by omega) hd0).mono ?_; rintro e w' ⟨rfl, rfl⟩; rw [show ((100 : Int)).toNat = 100 from rfl, ← HD.out]))
    all_goals (go_wp2_with fail; go_meet; exact ⟨rfl, rfl, ((Below.refl _ _).alloc (Nat.le_refl _) _).drew, by simp, by simp, by simp⟩)
  case rest =>
    obtain ⟨rfl, rfl, hl1, hsz, c0, c1⟩ := hcut
    go_wp2_with fail
    refine (next_of HN.out _ (by omega)).mono ?_
    rintro e w1 ⟨rfl, hb1⟩
    have hlw := hb1.alloc hb1.size (.cells #[.int .u8 k1.toNat, .string (bs d1)] 31)
    go_wp2_with fail
    refine (refNext_of HN.out _ (by omega)).mono ?_
    rintro e w2 ⟨rfl, hb2⟩
    have h12 := hb2.alloc hb2.size (.cells #[.int .u8 k1.toNat, .string (bs d1)] 35)
    go_wp2_with fail
    refine (all_any l _ (by omega)).mono ?_
    rintro e w3 ⟨v3, rfl, hv3, hb3⟩
    have hs3 : RecsAt w3 v3 (recs l) := SlAt.of_buf hv3
    go_wp2_with fail
    refine (refAll_any l _ (by omega)).mono ?_
    rintro e w4 ⟨v4, rfl, hv4, hb4⟩
    have hs3 := hs3.below hb4
    have hs4 : RecsAt w4 v4 (recs l) := SlAt.of_buf hv4
    have hleft := left_le l
    obtain ⟨rs, hrs⟩ : ∃ rs, rs = recs l := ⟨_, rfl⟩
    rw [← hrs] at hs3 hs4
    clear hv3 hv4 hrs
    obtain ⟨A3, c3, rfl, hc3, hc3m⟩ := hs3.shape
    obtain ⟨A4, c4, rfl, hc4, hc4m⟩ := hs4.shape
    unfold maxLen at hc3m hc4m
    go_wp2_with fail
    refine (awake2_any _).mono ?_
    rintro e w5 ⟨rfl, hb5⟩
    have hs3 := hs3.below hb5
    have hs4 := hs4.below hb5
    have h25 := below_trans (below_trans hb3 hb4) hb5
    have h15 := below_trans h12 h25
    have hc5 := below_trans hlw h15
    have x0 : w5.cell? ⟨w1.heap.size, 0, none⟩ = some (.int .u8 k1.toNat) := by rw [h15.cell (by simp)]; simp
    have x1 : w5.cell? ⟨w1.heap.size, 1, none⟩ = some (.string (bs d1)) := by rw [h15.cell (by simp)]; simp
    have y0 : w5.cell? ⟨w2.heap.size, 0, none⟩ = some (.int .u8 k1.toNat) := by rw [h25.cell (by simp)]; simp
    have y1 : w5.cell? ⟨w2.heap.size, 1, none⟩ = some (.string (bs d1)) := by rw [h25.cell (by simp)]; simp
    have z0 := (hc5.cell (p := ⟨W.heap.size, 0, none⟩) hsz).trans c0
    have z1 := (hc5.cell (p := ⟨W.heap.size, 1, none⟩) hsz).trans c1
    have hl5 := below_trans hl1 hc5
    have hz5 := Nat.lt_of_lt_of_le hsz hc5.size
    clear hb1 hb2 hb3 hb4 hb5 hlw h12 h25 h15 hc5 c0 c1 hsz hl1
    go_wp2_with fail
    go_loopw [79] (fun i wr => ∃ k n : Nat, k ≤ rs.length ∧ i = .int .i64 k ∧ wr = w5.drewN n) (fun i _ => rs.length - (intOf i).toNat)
    case atStart => exact ⟨0, 0, Nat.zero_le _, rfl, rfl⟩
    case round =>
      obtain ⟨k, n, hk, rfl, rfl⟩ := hrel
      by_cases hgo : k < rs.length
      · obtain ⟨⟨kk, dd⟩, hki⟩ : ∃ r, rs[k]? = some r := ⟨_, List.getElem?_eq_getElem hgo⟩
        obtain ⟨b, o, rfl, hlt, q0, q1⟩ := hs3.at_ hki
        obtain ⟨b2, o2, rfl, hlt2, q2, q3⟩ := hs4.at_ hki
        have hci : (0 : Int) ≤ (k : Int) := by omega
        have hci2 : (k : Int) < rs.length := by omega
        clear hki x0 x1 y0 y1
        go_wp2_with fail
        go_quiet (fail)
        go_wp2_with fail
        go_roundw
        case rel => exact ⟨k + 1, n + nq, by omega, by go_num, rfl⟩
        case measure => simp [intOf]; omega
      · have hR : (rec (kd, d)).length ≤ 200 := by
          rw [rec_len]
          have := u_len d.length (by omega)
          simp only
          omega
        obtain ⟨R, hRe⟩ : ∃ R, R = rec (kd, d) := ⟨_, rfl⟩
        rw [← hRe] at hR
        have HR := Lib.hid hRe
        clear hRe x0 x1 y0 y1 hs3 hs4
        go_wp2_with fail
        refine wp_region_facts [(0, (isV (.agg #[.int .u8 kd.toNat, .string (bs d)]), noFact)), (1, (isSl R.length, fun v w => BBuf w 5 v R)), (2, (isV (.string (bs R)), noFact)), (3, (isV (.agg #[.int .u8 kd.toNat, .string (bs d)]), noFact)), (4, (isV (.string (bs R)), noFact)),
          (8, (isV (.int .u32 (sum t)), noFact)), (10, (isV (.int .u32 (sum t)), noFact)), (15, (isV (.int .u32 (sum l)), noFact)), (17, (isV (.int .u32 (sum (l ++ t))), noFact)), (21, (isV (.int .u32 (sum (l ++ t))), noFact))] (by kernel_rfl) 116 (by kernel_rfl) rfl ?_ ?_ ?_
        · apply lookup_ne
          simp only [List.forall_mem_cons, List.not_mem_nil, false_imp_iff, implies_true, and_true]
          exact ⟨isV_some _, isSl_some _, isV_some _, isV_some _, isV_some _, isV_some _, isV_some _, isV_some _, isV_some _, isV_some _⟩
        · apply lookup_st
          simp only [List.forall_mem_cons, List.not_mem_nil, false_imp_iff, implies_true, and_true]
          refine ⟨?_, fun v w w' hb hv => hv.below hb, ?_, ?_, ?_, ?_, ?_, ?_, ?_, ?_⟩ <;> exact fun _ _ _ _ _ => trivial
        have hload : ∀ w, Below (w5.drewN n).heap.size (w5.drewN n) w → w.cell? ⟨W.heap.size, 0, none⟩ = some (.int .u8 kd.toNat) ∧ w.cell? ⟨W.heap.size, 1, none⟩ = some (.string (bs d)) := fun w hw =>
          ⟨(hw.cell (p := ⟨W.heap.size, 0, none⟩) hz5).trans z0, (hw.cell (p := ⟨W.heap.size, 1, none⟩) hz5).trans z1⟩
        have hM : ∀ w, Calls Try.prog 20 #[.int .u32 (sum l), .string (bs t)] w fun e w' => e = .returned (.int .u32 (sum (l ++ t))) ∧ w = w' := fun w =>
          more_of (bs t) (sum l) w (by rw [bs_size]; unfold maxLen; omega) (sum_lt _) (more_sum l t)
        have HM := Lib.hid hM
        clear hM
        have hnl : ¬ 9223372036854775807 < l.length + t.length := by omega
        have HLD := Lib.hid hload
        clear hload z0 z1
        refine Chain.call' (a' := ?_) _ rfl rfl rfl rfl (fun w hw hF => ?_) ?_ ?_
        rotate_left 1
        focus
          obtain ⟨g0, g1⟩ := HLD.out w hw
          go_simp
          exact Below.refl _ _
        focus (simp only [Act.put, List.setIfInBounds_toArray, List.set_cons_succ, List.set_cons_zero]; try rfl)
        refine Chain.make _ _ rfl rfl rfl (fun w hw hF => ?_) (fun v hv a' ha => ?_)
        · go_simp
          refine (append_any (.slice none 0 0) [] kd (bs d) _ (by rw [bs_size]; simp; omega) (BBuf.nil _ _)).mono ?_
          rintro e w' ⟨v, rfl, h1⟩
          have hbl := h1.nil_below
          have hb := h1.buf
          rw [List.nil_append, bs_data, ← HR.out] at hb
          exact ⟨hbl, isSl_of hb, hb⟩
        obtain ⟨A6, c6, rfl, hc6⟩ := hv
        simp only [Act.put, List.setIfInBounds_toArray, List.set_cons_succ, List.set_cons_zero] at ha
        subst ha
        refine Chain.call' (a' := ?_) _ rfl rfl rfl rfl (fun w hw hF => ?_) ?_ ?_
        rotate_left 1
        focus
          have hb : BBuf w 5 (.slice A6 R.length c6) R := hF 1 (by kernel_rfl)
          have hcv := hb.string bytes_ty 9 Try.underlying9
          go_simp
          exact Below.refl _ _
        focus (simp only [Act.put, List.setIfInBounds_toArray, List.set_cons_succ, List.set_cons_zero]; try rfl)
        repeat (first
          | (refine Chain.step (v := ?_) (a' := ?_) rfl rfl rfl ?_ ?_ ?_
             rotate_left 2
             focus (intro w; go_simp; try with_reducible rfl)
             focus (simp only [Act.put, List.setIfInBounds_toArray, List.set_cons_succ, List.set_cons_zero]; try rfl))
          | (refine Chain.call' (a' := ?_) _ rfl rfl rfl rfl (fun w hw hF => ?_) ?_ ?_
             rotate_left 1
             focus
               obtain ⟨g0, g1⟩ := HLD.out w hw
               go_simp
               first
                 | exact Below.refl _ _
                 | ((with_reducible refine (refBytes_any kd d _ (by omega)).mono ?_); exact (fun e w' ⟨h1, h2⟩ => by subst h1; rw [← HR.out]; exact ⟨rfl, h2⟩))
                 | ((with_reducible refine (sum_any (bs t) _ (by rw [bs_size]; unfold maxLen; omega)).mono ?_); exact (fun e w' ⟨h1, h2⟩ => by subst h1; subst h2; exact ⟨rfl, Below.refl _ _⟩))
                 | ((with_reducible refine (sum_any (bs l) _ (by rw [bs_size]; unfold maxLen; omega)).mono ?_); exact (fun e w' ⟨h1, h2⟩ => by subst h1; subst h2; exact ⟨rfl, Below.refl _ _⟩))
                 | ((with_reducible refine (refSum_any (bs t) _ (by rw [bs_size]; omega)).mono ?_); exact (fun e w' ⟨h1, h2⟩ => by subst h1; exact ⟨rfl, h2⟩))
                 | ((with_reducible refine (refSum_any (bs (l ++ t)) _ (by rw [bs_size, List.length_append]; omega)).mono ?_); exact (fun e w' ⟨h1, h2⟩ => by subst h1; exact ⟨rfl, h2⟩))
                 | ((with_reducible refine (HM.out _).mono ?_); exact (fun e w' ⟨h1, h2⟩ => by subst h1; subst h2; exact ⟨rfl, Below.refl _ _⟩))
             focus (simp only [Act.put, List.setIfInBounds_toArray, List.set_cons_succ, List.set_cons_zero]; try rfl)))
        refine Chain.end_ (fun w6 hw6 _ => ?_)
        go_wp2_with fail
        go_ret
        exact ⟨rfl, below_trans (below_drewN hl5 n) hw6⟩

set_option maxRecDepth 100000 in
theorem open_rec {H : Type} {enc : TypeId × Value → H} {W : World} {base b0 : Nat} {spare : Nat → Bool} {held : Bool} {r : Reach} {v : Value} {d : DataW H} {p : List MemPlace} (hval : Value.okWide Try.prog W r b0 31 v)
    (h : DataW.Trod enc Try.prog W base spare held 31 v d p) : ∃ r : UInt8 × ByteArray, v = .agg #[.int .u8 r.1.toNat, .string r.2] ∧ r.2.size ≤ maxLen := by
  obtain ⟨v0, v1, y0, y1, n, rfl, _, _, t0, t1⟩ := Joins.open_agg2 Try.underlying31 (by kernel_rfl) (by kernel_rfl) hval h
  obtain ⟨n0, e0, _, w0⟩ := DataW.trod_int Try.underlying5 t0
  obtain ⟨s1, e1, e2, ws⟩ := DataW.trod_string Try.underlying9 t1
  replace e0 : v0 = _ := (List.cons.inj e0).1
  replace e1 : v1 = _ := (List.cons.inj e1).1
  have b0 := bounds_u8 w0
  subst e0; subst e1
  exact ⟨(UInt8.ofNat n0.toNat, s1), by rw [show ((UInt8.ofNat n0.toNat).toNat : Int) = n0 by simp; omega], ws⟩

theorem frameReads_walk0 (s0 : ByteArray) (hs0 : s0.size ≤ maxLen) (t0 : ByteArray) (ht0 : t0.size ≤ maxLen) (v : Value) (r : UInt8 × ByteArray) (W : World) (h : v = .agg #[.int .u8 r.1.toNat, .string r.2] ∧ r.2.size ≤ maxLen) :
    Calls Try.prog 5 #[.string s0, .string t0, v] W (RetBelow W (.bool true)) := by
  obtain ⟨rfl, h2⟩ := h
  exact frameReads_walk1 s0 hs0 t0 ht0 r.1 r.2 h2 W

set_option maxRecDepth 100000 in
theorem frameReads_lifted (os : Os) (started : os.Started) (H : Type) (enc : TypeId × Value → H) :
    ReturnsInHanded {} Try.checked os 5 .any (Rows.frameReadsSpec.pre6 enc Try.prog Try.f5 Rows.frameReadsRow.domain false) (Rows.frameReadsSpec.post enc Try.prog Try.f5 false true false false) := by
  refine returnsInHanded_of_change_sized (C := Try.checked) law_own started (by kernel_rfl) Try.func5
    (ChangeSpec.witness6 (enc := enc) (C := Try.checked) false ⟨#[], #[.string ByteArray.empty, .string ByteArray.empty, .agg #[.int .u8 0, .string ByteArray.empty]], []⟩ 8 (by kernel_rfl) (by kernel_rfl) (by kernel_rfl) (by kernel_rfl)) ?_
  intro W base args ds gs before hval0 hW _ hsz0 _
  have hval : ∀ (j : Nat) t v, Try.f5.params[j]? = some t → args[j]? = some v → Value.okWide Try.prog W .any base t v := hval0
  have hsz : (DataW.weightsEach Try.prog (Try.f5.params.toList ++ Rows.frameReadsSpec.plain.varTypes Try.prog) (ds ++ gs)).all (· ≤ reachBytes) = true := hsz0
  have hW' := hW
  obtain ⟨p, q, hA0, hV, rfl, _, _⟩ := hW
  have hA : DataW.TrodAll enc Try.prog W 0 (fun _ => true) true Try.f5.params.toList args.toList ds p := hA0
  rw [Try.params5] at hA hval hsz
  obtain ⟨v0, vs0, d0, ds0, p0, q0, hargs, rfl, rfl, h0, r0⟩ := trodAll_cons hA
  obtain ⟨v1, vs1, d1, ds1, p1, q1, rfl, rfl, rfl, h1, r1⟩ := trodAll_cons r0
  obtain ⟨v2, vs2, d2, ds2, p2, q2, rfl, rfl, rfl, h2, r2⟩ := trodAll_cons r1
  obtain ⟨rfl, rfl, rfl⟩ := trodAll_nil r2
  obtain rfl : args = #[v0, v1, v2] := by cases args; simp_all
  obtain ⟨rfl, rfl⟩ := trodVars_none hV
  obtain ⟨a0, rfl, rfl, rfl, w0⟩ := open_string Try.underlying9 (hval 0 9 v0 rfl rfl) h0
  obtain ⟨a1, rfl, rfl, rfl, w1⟩ := open_string Try.underlying9 (hval 1 9 v1 rfl rfl) h1
  obtain ⟨ts2, hts2⟩ := open_rec (hval 2 31 v2 rfl rfl) h2
  refine (frameReads_walk0 a0 w0 a1 w1 v2 ts2 W hts2).mono fun e W' ⟨he, hb⟩ => ?_
  subst he
  exact ⟨_, rfl, law_post law_laid (by intro t ht; rw [Try.params5] at ht; simp only [List.mem_cons, List.not_mem_nil, or_false] at ht; rcases ht with rfl | rfl | rfl <;> exact ⟨by kernel_rfl, of_decide_eq_true (by kernel_rfl)⟩) rfl Try.underlying4 rfl rfl hW' hb⟩

theorem frameReads_holds : Rows.FrameReadsSaid :=
  OpenClaim.holds_of_wide 5 Try.f5 rfl rfl rfl rfl rfl rfl rfl ⟨rfl, rfl, rfl, rfl, rfl⟩ rfl rfl rfl rfl rfl (by kernel_rfl) Try.func5 (by kernel_rfl)
    (of_decide_eq_true (by kernel_rfl)) (by unfold Func.isWrapper; first | (rw [if_pos (by decide +kernel)]; kernel_rfl) | (rw [if_neg (by decide +kernel)]; exact ⟨rfl, rfl⟩))
    (fun os started H enc _ => frameReads_lifted os started H enc)

end Go.Proofs.Ytmnakjjhphoopaa
