/-
  Layer 20: PlanMore holds: for every list of blocks and every width, what is shadowed is never planned again. No condition.
-/
import Derived.Test.YtemmgejaoegpfaaPlnL
import Derived.Test.YtemmgejaoegpfaaPlnN
import Derived.Test.YtemmgejaoegpfaaLib21
import Derived.Test.YtemmgejaoegpfaaLib22
import Derived.Test.YtemmgejaoegpfaaRows
namespace Go.Proofs.Ytemmgejaoegpfaa
open Go.RowKit Go.Bar Go.Bar.Leb Go.Bar.Frm Go.Bar.Idt Go.Bar.Met Go.Bar.Pln

theorem freeU_more (L : List Mt) (mf mk : Marks) (hmk : mk = mf ∨ mk = withL mf 7 (toMark L mf)) : (freeU L mk).length = (freeU L mf).length := by
  have h1 := (srt_perm (freeU L mk)).length_eq
  have h2 := (srt_perm (freeU L mf)).length_eq
  have e : free L mk = free L mf := by rcases hmk with rfl | rfl; exact rfl; exact more_free _ _ _
  unfold free at e
  rw [e] at h1; omega
/-- of both listings the same plan -/
theorem next_two (L : List Mt) (mf : Marks) (wd : Int) (hl : Lst L) (h20 : (freeU L mf).length < 20) (hw : wd ≤ 100000) : ∃ (a b c : Int) (is : Bool) (pn : Nat),
    ∀ mk, (mk = mf ∨ mk = withL mf 7 (toMark L mf)) → ∀ (at_ : Int) (mv : Value) (bm n : Nat) (w' : World), MsAt w' w' mv L → Mp w' bm n mk →
      Calls Try.prog 8 #[.agg #[.int .i64 at_, mv, .map (some bm)], .int .i64 wd] w' (fun e w'' => ∃ A c', e = .returned (.tuple #[.agg #[.int .i64 a, .int .i64 b, .int .i64 c, .slice A pn c'], .bool is]) ∧ Below w'.heap.size w' w'') := by
  refine ⟨((next L mf wd).getD pl0).fr, ((next L mf wd).getD pl0).to_, ((next L mf wd).getD pl0).lv, (next L mf wd).isSome, ((next L mf wd).getD pl0).ms.length, fun mk hmk at_ mv bm n w' h1 h2 => ?_⟩
  have e : next L mk wd = next L mf wd := by rcases hmk with rfl | rfl; exact rfl; exact more_next _ _ _ _
  refine (next_any at_ wd mv L bm n mk w' w' (Below.refl _ _) h1 h2 hl (by rw [freeU_more L mf mk hmk]; exact h20) hw).mono ?_
  rw [e]
  rintro e' w'' ⟨v, rfl, hv⟩
  obtain ⟨A, c, rfl, _⟩ := hv.shape
  exact ⟨A, c, rfl, hv.below_⟩
theorem rank_two (L : List Mt) (mf : Marks) (hl : Lst L) (h20 : (freeU L mf).length < 20) : ∃ r : Int,
    ∀ mk, (mk = mf ∨ mk = withL mf 7 (toMark L mf)) → ∀ (at_ : Int) (mv : Value) (bm n : Nat) (w' : World), MsAt w' w' mv L → Mp w' bm n mk →
      Calls Try.prog 14 #[.agg #[.int .i64 at_, mv, .map (some bm)]] w' (RetBelow w' (.int .i64 r)) := by
  refine ⟨rank L mf, fun mk hmk at_ mv bm n w' h1 h2 => ?_⟩
  have e : rank L mk = rank L mf := by rcases hmk with rfl | rfl; exact rfl; exact more_rank _ _ _
  rw [← e]
  exact rank_any at_ mv L bm n mk w' w' (Below.refl _ _) h1 h2 hl (by rw [freeU_more L mf mk hmk]; exact h20)
theorem mark_none (L : List Mt) (mf : Marks) (hl : Lst L) : ∀ (at_ : Int) (mv : Value) (bm n : Nat) (w' : World), MsAt w' w' mv L → Mp w' bm n (withL mf 7 (toMark L mf)) →
    Calls Try.prog 12 #[.agg #[.int .i64 at_, mv, .map (some bm)]] w' (fun e w'' => ∃ A c, e = .returned (.slice A 0 c) ∧ Below w'.heap.size w' w'') := by
  intro at_ mv bm n w' h1 h2
  refine (toMark_any at_ mv L bm n _ w' h1 h2 hl).mono ?_
  rintro e' w'' ⟨v, rfl, hv⟩
  rw [more_mark] at hv
  obtain ⟨A, c, rfl, _⟩ := hv.buf.shape
  exact ⟨A, c, rfl, hv.below⟩

set_option maxHeartbeats 8000000 in
set_option maxRecDepth 10000 in
theorem planMore_walk0 (v : Value) (l : List On) (z : Int) (hz : (Lit.int .i64 z).wf = true) (w : World) (h : OnsAt w v l) :
    Calls Try.prog 4 #[v, .int .i64 z] w (RetBelow w (.bool true)) := by
  have hwd := wdOf_rng z
  have ht := tmod_small z
  have e1 : IntKind.i64.wrap (z.tmod 1000 + 1000) = z.tmod 1000 + 1000 := by rw [IntKind.wrap_i64]; omega
  have e2 : IntKind.i64.wrap (1 + (z.tmod 1000 + 1000).tmod 1000) = wdOf z := by
    have : 1 + (z.tmod 1000 + 1000).tmod 1000 = wdOf z := rfl
    rw [this, IntKind.wrap_i64]; omega
  have e3 : IntKind.i64.wrap (1 + (z.tmod 1000 + 1000) % 1000) = wdOf z := by
    rw [← Int.tmod_eq_emod_of_nonneg (by omega)]; exact e2
  have e4 : 1 + z.tmod 1000 % 1000 = wdOf z := by
    unfold wdOf
    rw [Int.tmod_eq_emod_of_nonneg (a := z.tmod 1000 + 1000) (by omega)]
    omega
  have hl := fun w' (hb : Below w.heap.size w w') => listing_any v l (wdOf z) w' (h.below hb) hwd.1 hwd.2
  have HL := Lib.hid hl
  have hlst := mkL_lst hwd.1 hwd.2 (l.take 12) (by rw [List.length_take]; omega)
  have h20 : (freeU (mkL (wdOf z) (l.take 12)) (mkF (l.take 12))).length < 20 := Nat.lt_of_le_of_lt (freeU_len _ _) (by rw [mkL_len, List.length_take]; omega)
  have hLl : (mkL (wdOf z) (l.take 12)).length ≤ 12 := by rw [mkL_len, List.length_take]; omega
  obtain ⟨L, hL⟩ : ∃ L, L = mkL (wdOf z) (l.take 12) := ⟨_, rfl⟩
  obtain ⟨mf, hmf⟩ : ∃ mf, mf = mkF (l.take 12) := ⟨_, rfl⟩
  rw [← hL] at HL hlst h20 hLl
  rw [← hmf] at HL h20
  obtain ⟨wd, hwd'⟩ : ∃ wd, wd = wdOf z := ⟨_, rfl⟩
  rw [← hwd'] at HL hwd e2 e3 e4
  obtain ⟨pa, pb, pc, is, pn, hnx⟩ := next_two L mf wd hlst h20 (by omega)
  obtain ⟨rk, hrk⟩ := rank_two L mf hlst h20
  have hmt := mark_none L mf hlst
  obtain ⟨F, hF⟩ : ∃ F, F = withL mf 7 (toMark L mf) := ⟨_, rfl⟩
  rw [← hF] at hnx hrk hmt
  have HNX := Lib.hid (hnx mf (.inl rfl))
  have HNY := Lib.hid (hnx F (.inr rfl))
  have HRX := Lib.hid (hrk mf (.inl rfl))
  have HRY := Lib.hid (hrk F (.inr rfl))
  have HMT := Lib.hid hmt
  have HFF := Lib.hid hF
  have HLST := Lib.hid hlst
  have H20 := Lib.hid h20
  clear hnx hrk hmt hF
  clear hl hL hmf hwd' hlst h20
  have hmm := @run_makeMap Try.prog
  obtain ⟨A, c, rfl, _, _⟩ := h.shape
  go_enter Try.func4, Try.ntmps4
  go_wp2_with fail
  refine (HL.out _ (Below.refl _ _)).mono ?_
  rintro e w1 ⟨lv, tv, rfl, hli, hbl, hb1⟩
  obtain ⟨mv, mb, rfl, hms, hmp⟩ := hli
  obtain ⟨mA, mc, rfl, _⟩ := hms.shape
  obtain ⟨ts, ht1, ht2, _⟩ := hbl
  obtain ⟨tA, tc, rfl, _⟩ := ht2.shape
  clear ht1 ht2 e1 e2 e3 e4 HL
  have b2 := below_trans (below_al w1 (.cells #[.int .i64 5, .slice mA L.length mc, .map (some mb)] 26)) (below_al _ (.cells #[.int .i64 5, .slice tA ts.length tc] 29))
  have L2 := (Blk.new w1 #[.int .i64 5, .slice mA L.length mc, .map (some mb)] 26).below (below_al _ (.cells #[.int .i64 5, .slice tA ts.length tc] 29))
  go_wp2_with fail
  refine (awake_any _).mono ?_
  rintro e w3 ⟨rfl, hb3⟩
  have L3 := L2.below hb3
  have B3 := below_trans hb1 (below_trans b2 hb3)
  have ms3 := (hms.below (below_trans b2 hb3)).base (below_trans b2 hb3)
  have mp3 := hmp.below (below_trans b2 hb3)
  clear L2 b2 hb3 hms hmp hb1
  have l2 : ∀ o, (w3.alloc o).cell? ⟨w1.heap.size, 2, none⟩ = some (.map (some mb)) := fun o => (L3.alloc o).cell (i := 2) rfl
  go_upto_region 6 with fail
  have M4 := MpAt.made w3 Try.prog 9 3
  have b4 := below_al w3 (.map #[] 0)
  have B4 := below_trans B3 b4
  have hM3 : w.heap.size ≤ w3.heap.size := B3.size
  have hl13 : w1.heap.size < w3.heap.size := L3.lt
  have hmb3 : mb < w3.heap.size := mp3.lt
  have mp4 := mp3.below b4
  have l2 : (w3.alloc (.map #[] 0)).cell? ⟨w1.heap.size, 2, none⟩ = some (.map (some mb)) := (L3.below b4).cell (i := 2) rfl
  obtain ⟨w4, hw4⟩ : ∃ w4, w4 = w3.alloc (.map #[] 0) := ⟨_, rfl⟩
  rw [← hw4] at B4 M4 b4 mp4 l2 ⊢
  have hM4 : w3.heap.size < w4.heap.size := M4.lt
  clear hw4 hmm
  go_wp2_with (at_range; refine wpList_range_mp _ rfl _ 24 rfl marks_ty rfl mp4 ?_; intro w5 cnt0 hr5 hc5 hg5 hs5)
  go_frame
  go_loopw [37] (fun _ wr => ∃ (left : List UInt8 → Bool) (cnt nn : Nat), MpR Try.prog 9 3 wr mb w4.heap.size 12 mf left cnt ∧ nn + cnt ≤ 12 ∧ Mp wr w3.heap.size nn (fun x => if left x then none else mf x) ∧ Below w3.heap.size w3 wr) (fun _ wr => wr.rangeLeft mb w4.heap.size)
  case atStart =>
    refine ⟨_, cnt0, 0, hr5, by omega, ?_, below_trans b4 ⟨hg5.os, hg5.tape, hg5.output, hg5.size, fun j hj => hg5.block j hj (by simp)⟩⟩
    have h0 := M4.kept hg5 (by simp)
    have e : (fun x => if (mf x).isSome = true then none else mf x) = (fun _ => none : Marks) := by
      funext x
      cases mf x <;> rfl
    rw [e]; exact h0
  case round =>
    obtain ⟨left, cnt, nn, hr, hn, hM, hB⟩ := hrel
    clear hr5 hg5 hs5 hc5 mp4 l2 M4 b4 B4
    go_wp2_with (at_next; refine wpList_next_mp _ rfl (.tmp 33) rfl marks_ty rfl hr ?_ ?_)
    · intro hl0
      have e : (fun x => if left x = true then none else mf x) = mf := by
        funext x
        rw [hl0 x]; rfl
      rw [e] at hM
      have L5 := L3.below hB
      have ms5 := (ms3.below hB).base hB
      have mp5 := mp3.below hB
      have k0 : wr.cell? ⟨w1.heap.size, 0, none⟩ = some (.int .i64 5) := L5.cell (i := 0) rfl
      have k1 : wr.cell? ⟨w1.heap.size, 1, none⟩ = some (.slice mA L.length mc) := L5.cell (i := 1) rfl
      have k2 : wr.cell? ⟨w1.heap.size, 2, none⟩ = some (.map (some mb)) := L5.cell (i := 2) rfl
      have B5 := below_trans B3 hB
      clear hr e
      go_wp2_with fail
      refine (toMark_any 5 (.slice mA L.length mc) L mb 12 mf wr ms5 mp5 HLST.out).mono ?_
      rintro e w6 ⟨v6, rfl, hn6⟩
      have L6 := L5.below hn6.below
      have B6 := below_trans B5 hn6.below
      have hB6 := below_trans hB hn6.below
      have hM6 := hM.below hn6.below
      obtain ⟨TM, hTM⟩ : ∃ TM, TM = toMark L mf := ⟨_, rfl⟩
      have hTl : TM.length ≤ 12 := by
        rw [hTM]
        unfold toMark
        rw [List.length_map]
        exact Nat.le_trans (List.length_filter_le _ _) hLl
      have hTi : ∀ s ∈ TM, s.length ≤ maxLen := by
        intro s hs
        rw [hTM] at hs
        unfold toMark at hs
        obtain ⟨m, hm, rfl⟩ := List.mem_map.1 hs
        have := (HLST.out.sm m (List.mem_filter.1 hm).1).id
        unfold maxLen; omega
      rw [← hTM] at hn6
      have HTM := Lib.hid hTM
      have HTI := Lib.hid hTi
      have hb6 := hn6.buf
      obtain ⟨A6, c6, rfl, _⟩ := hb6.shape
      clear hTM hTi hn6 L5 ms5 mp5 k0 k1 k2 B5 hM
      go_wp2_with fail
      go_loopw [45] (fun j wi => ∃ q nn : Nat, j = .int .i64 q ∧ q ≤ TM.length ∧ nn ≤ 12 + q ∧ Mp wi w3.heap.size nn (withL mf 7 (TM.take q)) ∧ Below w3.heap.size w3 wi ∧ Buf wi 9 1 (.slice A6 TM.length c6) TM.length (scs TM)) (fun j _ => TM.length - (intOf j).toNat)
      case atStart => exact ⟨0, nn, rfl, Nat.zero_le _, by omega, by rw [List.take_zero, withL_nil]; exact hM6, hB6, hb6⟩
      case round =>
        obtain ⟨q, n2, rfl, hq, hn2, hM7, hB7, hb7⟩ := hrel
        clear hM6 hB6 hb6 L6 B6
        by_cases hgo : q < TM.length
        · obtain ⟨s, hs⟩ : ∃ s, TM[q]? = some s := ⟨_, List.getElem?_eq_getElem hgo⟩
          obtain ⟨b9, o9, hA9, _, d0⟩ := SrcAt.at_ (SlAt.of_buf hb7) hs
          have hsl := HTI.out s (List.mem_of_getElem? hs)
          have hci : (0 : Int) ≤ (q : Int) := by omega
          have HU : Hid (upd (withL mf 7 (TM.take q)) s 7 = withL mf 7 (TM.take (q + 1))) := Lib.hid (by rw [List.take_add_one, hs, Option.toList_some, withL_snoc])
          have HA9 := Lib.hid hA9
          obtain ⟨F, hF⟩ : ∃ F, F = withL mf 7 (TM.take q) := ⟨_, rfl⟩
          rw [← hF] at HU hM7
          clear hs hA9 hF
          rw [HA9.out]
          go_wp2_with (at_mapUpdate; refine wpList_update_mp _ rfl _ _ _ 24 rfl marks_ty rfl hM7 (by unfold maxLen; omega) s rfl hsl 7 rfl (by decide) (by decide) ?_; intro w8 hm8 hg8)
          rw [← HA9.out]
          rw [HU.out] at hm8
          have HM8 := Lib.hid hm8
          have hb8 := hb7.mapped hM7 hg8
          go_roundw
          case rel => exact ⟨q + 1, n2 + 1, by go_num, by omega, by omega, HM8.out, grown_below hB7 hg8 (Nat.le_refl _) (Nat.le_refl _), hb8⟩
          case measure => simp [intOf]; omega
        · obtain rfl : q = TM.length := by omega
          rw [List.take_length] at hM7
          have L7 := L3.below hB7
          have ms7 := (ms3.below hB7).base hB7
          have mp7 := mp3.below hB7
          have B7 := below_trans B3 hB7
          have k1 : wr.cell? ⟨w1.heap.size, 1, none⟩ = some (.slice mA L.length mc) := L7.cell (i := 1) rfl
          have hnb := NBuf.lit0 (Below.refl wr.heap.size wr) 55 8
          obtain ⟨xs, hx, hsl, hma⟩ := ms7
          have hxl := map_len hx
          rw [hxl] at hsl
          have hsrc := fun o => SlAt.src (P := Try.prog) (hsl.below (below_al wr o)) (by omega) (t := 23) Try.underlying23 (mcs_one xs)
          have HSRC := Lib.hid hsrc
          have HX := Lib.hid hx
          have HXL := Lib.hid hxl
          have k1a : ∀ o, (wr.alloc o).cell? ⟨w1.heap.size, 1, none⟩ = some (.slice mA L.length mc) := fun o => (L7.alloc o).cell (i := 1) rfl
          clear hsrc hx hxl hsl
          have hft : withL mf 7 TM = F := by rw [HFF.out, HTM.out]
          rw [hft] at hM7
          have HMA := Lib.hid hma
          clear hft hma
          go_wp2_with (at_builtin; refine wpList_append_el rfl (.tmp 52) (.tmp 54) 23 23 rfl meta_ty rfl hnb.buf rfl (HSRC.out _) (by simp only [maxLen]; omega) (by omega) ?_; intro v8 w8 hb8 ha8 hg8; have hn8 := hnb.step hb8 ha8 hg8; clear hb8 ha8 hg8)
          have hM8 := hM7.below hn8.below
          have hms8 : MsAt wr w8 v8 L := ⟨xs, HX.out, by have h := hn8.slice; rwa [List.nil_append, Nat.zero_add, ← HXL.out] at h, HMA.out⟩
          refine (new_any 6 v8 L w3.heap.size n2 F wr w8 hms8 hM8 HLST.out).mono ?_
          rintro e w9 ⟨v9, rfl, hli9, hb9⟩
          obtain ⟨mv9, b9, rfl, hms9, hmp9⟩ := hli9
          obtain ⟨A9, c9, rfl, _⟩ := hms9.shape
          have b79 := below_trans hn8.below hb9
          have b10 := below_trans b79 (below_al w9 (.cells #[.int .i64 6, .slice A9 L.length c9, .map (some b9)] 26))
          have L10 := L7.below b10
          have B10 := below_trans B7 b10
          have hB10 := below_trans hB7 b10
          have ms10 := (ms3.below hB10).base hB10
          have mp10 := mp3.below hB10
          have ns10 := (hms9.below (below_al w9 (.cells #[.int .i64 6, .slice A9 L.length c9, .map (some b9)] 26))).base b10
          have np10 := hmp9.below (below_al w9 (.cells #[.int .i64 6, .slice A9 L.length c9, .map (some b9)] 26))
          have Y10 := Blk.new w9 #[.int .i64 6, .slice A9 L.length c9, .map (some b9)] 26
          clear hn8 hM8 hms8 hb9 b79 b10 hms9 hmp9 hM7 k1 k1a HSRC HX HXL HMA mp7 L7 B7 hnb hb7
          go_upto_region 16 with fail
          obtain ⟨w10, hw10⟩ : ∃ w10, w10 = w9.alloc (.cells #[.int .i64 6, .slice A9 L.length c9, .map (some b9)] 26) := ⟨_, rfl⟩
          rw [← hw10] at L10 B10 hB10 ms10 mp10 ns10 np10 Y10 ⊢
          clear hw10
          obtain ⟨g0, g1, g2⟩ := L10.c3
          go_wp2_with fail
          refine (HNX.out 5 _ mb 12 w10 ms10 mp10).mono ?_
          rintro e w11 ⟨A11, c11, rfl, hb11⟩
          clear g0 g1 g2
          have b12 := below_trans hb11 (below_al w11 (.cells #[.int .i64 pa, .int .i64 pb, .int .i64 pc, .slice A11 pn c11] 33))
          have L12 := L10.below b12
          have Y12 := Y10.below b12
          have B12 := below_trans B10 b12
          have ms12 := (ms10.below b12).base b12
          have mp12 := mp10.below b12
          have ns12 := (ns10.below b12).base b12
          have np12 := np10.below b12
          have P12 := Blk.new w11 #[.int .i64 pa, .int .i64 pb, .int .i64 pc, .slice A11 pn c11] 33
          clear hb11 b12 L10 Y10 B10 ms10 mp10 ns10 np10
          go_upto_region 17 with fail
          obtain ⟨w12, hw12⟩ : ∃ w12, w12 = w11.alloc (.cells #[.int .i64 pa, .int .i64 pb, .int .i64 pc, .slice A11 pn c11] 33) := ⟨_, rfl⟩
          rw [← hw12] at L12 Y12 B12 ms12 mp12 ns12 np12 P12 ⊢
          clear hw12
          obtain ⟨g0, g1, g2⟩ := Y12.c3
          go_wp2_with fail
          refine (HNY.out 6 _ b9 n2 w12 ns12 np12).mono ?_
          rintro e w13 ⟨A13, c13, rfl, hb13⟩
          clear g0 g1 g2
          have b14 := below_trans hb13 (below_al w13 (.cells #[.int .i64 pa, .int .i64 pb, .int .i64 pc, .slice A13 pn c13] 33))
          have L14 := L12.below b14
          have Y14 := Y12.below b14
          have P14 := P12.below b14
          have HB14 := Lib.hid (below_trans B12 b14)
          have HMS := Lib.hid ((ms12.below b14).base b14)
          have HMP := Lib.hid (mp12.below b14)
          have HNS := Lib.hid ((ns12.below b14).base b14)
          have HNP := Lib.hid (np12.below b14)
          have Q14 := Blk.new w13 #[.int .i64 pa, .int .i64 pb, .int .i64 pc, .slice A13 pn c13] 33
          clear hb13 b14 L12 Y12 P12 B12 ms12 mp12 ns12 np12
          go_upto_region 18 with fail
          obtain ⟨w14, hw14⟩ : ∃ w14, w14 = w13.alloc (.cells #[.int .i64 pa, .int .i64 pb, .int .i64 pc, .slice A13 pn c13] 33) := ⟨_, rfl⟩
          rw [← hw14] at L14 Y14 P14 HB14 HMS HMP HNS HNP Q14 ⊢
          clear hw14
          have HL := Lib.hid L14
          have HY := Lib.hid Y14
          have HP := Lib.hid P14
          have HQ := Lib.hid Q14
          clear L14 Y14 P14 Q14
          refine wp_region_facts [(0, (isV (.agg #[.int .i64 6, .slice A9 L.length c9, .map (some b9)]), noFact)), (1, ((fun v => ∃ A c, v = .slice A 0 c), noFact)), (11, (isV (.slice A11 pn c11), noFact)), (14, (isV (.slice A13 pn c13), noFact)), (19, (isV (.agg #[.int .i64 5, .slice mA L.length mc, .map (some mb)]), noFact)), (20, (isV (.int .i64 rk), noFact)), (21, (isV (.agg #[.int .i64 6, .slice A9 L.length c9, .map (some b9)]), noFact)), (22, (isV (.int .i64 rk), noFact))] (by kernel_rfl) 95 (by kernel_rfl) rfl ?_ ?_ ?_
          · apply lookup_ne
            simp only [List.forall_mem_cons, List.not_mem_nil, false_imp_iff, implies_true, and_true]
            exact ⟨⟨_, rfl⟩, ⟨_, none, 0, rfl⟩, ⟨_, rfl⟩, ⟨_, rfl⟩, ⟨_, rfl⟩, ⟨_, rfl⟩, ⟨_, rfl⟩, ⟨_, rfl⟩⟩
          · apply lookup_st
            simp only [List.forall_mem_cons, List.not_mem_nil, false_imp_iff, implies_true, and_true]
            refine ⟨?_, ?_, ?_, ?_, ?_, ?_, ?_, ?_⟩
            · exact fun _ _ _ _ _ => trivial
            · exact fun _ _ _ _ _ => trivial
            · exact fun _ _ _ _ _ => trivial
            · exact fun _ _ _ _ _ => trivial
            · exact fun _ _ _ _ _ => trivial
            · exact fun _ _ _ _ _ => trivial
            · exact fun _ _ _ _ _ => trivial
            · exact fun _ _ _ _ _ => trivial
          repeat (first
            | (refine Chain.step (v := ?_) (a' := ?_) rfl rfl rfl ?_ ?_ ?_
               rotate_left 2
               focus (intro w; go_simp; try with_reducible rfl)
               focus (simp only [Act.put, List.setIfInBounds_toArray, List.set_cons_succ, List.set_cons_zero]; try rfl))
            | (refine Chain.skip (a' := ?_) rfl rfl rfl ?_ ?_
               rotate_left 1
               focus (simp only [Act.put, List.setIfInBounds_toArray, List.set_cons_succ, List.set_cons_zero]; try rfl)))
          refine Chain.call' (a' := ?_) _ rfl rfl rfl rfl (fun wx hw hF => ?_) ?_ ?_
          rotate_left 1
          focus
            obtain ⟨g0, g1, g2⟩ := Blk.c3 (HY.out.below hw); go_simp; first | exact ⟨rfl, Below.refl _ _⟩ | exact Below.refl _ _
          focus (simp only [Act.put, List.setIfInBounds_toArray, List.set_cons_succ, List.set_cons_zero]; try rfl)
          repeat (first
            | (refine Chain.step (v := ?_) (a' := ?_) rfl rfl rfl ?_ ?_ ?_
               rotate_left 2
               focus (intro w; go_simp; try with_reducible rfl)
               focus (simp only [Act.put, List.setIfInBounds_toArray, List.set_cons_succ, List.set_cons_zero]; try rfl))
            | (refine Chain.skip (a' := ?_) rfl rfl rfl ?_ ?_
               rotate_left 1
               focus (simp only [Act.put, List.setIfInBounds_toArray, List.set_cons_succ, List.set_cons_zero]; try rfl)))
          refine Chain.make _ _ rfl rfl rfl (fun wx hw hF => ?_) (fun v1 hv1 a' ha => ?_)
          focus
            go_simp
            with_reducible refine (HMT.out 6 _ b9 n2 _ ((HNS.out.below hw).base hw) (HNP.out.below hw)).mono ?_
            rintro e w' ⟨A, c, rfl, hb⟩
            exact ⟨hb, ⟨A, c, rfl⟩, trivial⟩
          obtain ⟨A1, c1, rfl⟩ := hv1
          simp only [Act.put, List.setIfInBounds_toArray, List.set_cons_succ, List.set_cons_zero] at ha
          subst ha
          repeat (first
            | (refine Chain.step (v := ?_) (a' := ?_) rfl rfl rfl ?_ ?_ ?_
               rotate_left 2
               focus (intro w; go_simp; try with_reducible rfl)
               focus (simp only [Act.put, List.setIfInBounds_toArray, List.set_cons_succ, List.set_cons_zero]; try rfl))
            | (refine Chain.skip (a' := ?_) rfl rfl rfl ?_ ?_
               rotate_left 1
               focus (simp only [Act.put, List.setIfInBounds_toArray, List.set_cons_succ, List.set_cons_zero]; try rfl)))
          refine Chain.call' (a' := ?_) _ rfl rfl rfl rfl (fun wx hw hF => ?_) ?_ ?_
          rotate_left 1
          focus
            obtain ⟨g0, g1, g2, g3⟩ := Blk.c4 (HP.out.below hw); go_simp; first | exact ⟨rfl, Below.refl _ _⟩ | exact Below.refl _ _
          focus (simp only [Act.put, List.setIfInBounds_toArray, List.set_cons_succ, List.set_cons_zero]; try rfl)
          repeat (first
            | (refine Chain.step (v := ?_) (a' := ?_) rfl rfl rfl ?_ ?_ ?_
               rotate_left 2
               focus (intro w; go_simp; try with_reducible rfl)
               focus (simp only [Act.put, List.setIfInBounds_toArray, List.set_cons_succ, List.set_cons_zero]; try rfl))
            | (refine Chain.skip (a' := ?_) rfl rfl rfl ?_ ?_
               rotate_left 1
               focus (simp only [Act.put, List.setIfInBounds_toArray, List.set_cons_succ, List.set_cons_zero]; try rfl)))
          refine Chain.call' (a' := ?_) _ rfl rfl rfl rfl (fun wx hw hF => ?_) ?_ ?_
          rotate_left 1
          focus
            obtain ⟨g0, g1, g2, g3⟩ := Blk.c4 (HQ.out.below hw); go_simp; first | exact ⟨rfl, Below.refl _ _⟩ | exact Below.refl _ _
          focus (simp only [Act.put, List.setIfInBounds_toArray, List.set_cons_succ, List.set_cons_zero]; try rfl)
          repeat (first
            | (refine Chain.step (v := ?_) (a' := ?_) rfl rfl rfl ?_ ?_ ?_
               rotate_left 2
               focus (intro w; go_simp; try with_reducible rfl)
               focus (simp only [Act.put, List.setIfInBounds_toArray, List.set_cons_succ, List.set_cons_zero]; try rfl))
            | (refine Chain.skip (a' := ?_) rfl rfl rfl ?_ ?_
               rotate_left 1
               focus (simp only [Act.put, List.setIfInBounds_toArray, List.set_cons_succ, List.set_cons_zero]; try rfl)))
          refine Chain.call' (a' := ?_) _ rfl rfl rfl rfl (fun wx hw hF => ?_) ?_ ?_
          rotate_left 1
          focus
            obtain ⟨g0, g1, g2⟩ := Blk.c3 (HL.out.below hw); go_simp; first | exact ⟨rfl, Below.refl _ _⟩ | exact Below.refl _ _
          focus (simp only [Act.put, List.setIfInBounds_toArray, List.set_cons_succ, List.set_cons_zero]; try rfl)
          repeat (first
            | (refine Chain.step (v := ?_) (a' := ?_) rfl rfl rfl ?_ ?_ ?_
               rotate_left 2
               focus (intro w; go_simp; try with_reducible rfl)
               focus (simp only [Act.put, List.setIfInBounds_toArray, List.set_cons_succ, List.set_cons_zero]; try rfl))
            | (refine Chain.skip (a' := ?_) rfl rfl rfl ?_ ?_
               rotate_left 1
               focus (simp only [Act.put, List.setIfInBounds_toArray, List.set_cons_succ, List.set_cons_zero]; try rfl)))
          refine Chain.call' (a' := ?_) _ rfl rfl rfl rfl (fun wx hw hF => ?_) ?_ ?_
          rotate_left 1
          focus
            go_simp; (with_reducible refine (HRX.out 5 _ mb 12 _ ((HMS.out.below hw).base hw) (HMP.out.below hw)).mono ?_); exact (fun e w' ⟨h1, h2⟩ => by subst h1; exact ⟨rfl, h2⟩)
          focus (simp only [Act.put, List.setIfInBounds_toArray, List.set_cons_succ, List.set_cons_zero]; try rfl)
          repeat (first
            | (refine Chain.step (v := ?_) (a' := ?_) rfl rfl rfl ?_ ?_ ?_
               rotate_left 2
               focus (intro w; go_simp; try with_reducible rfl)
               focus (simp only [Act.put, List.setIfInBounds_toArray, List.set_cons_succ, List.set_cons_zero]; try rfl))
            | (refine Chain.skip (a' := ?_) rfl rfl rfl ?_ ?_
               rotate_left 1
               focus (simp only [Act.put, List.setIfInBounds_toArray, List.set_cons_succ, List.set_cons_zero]; try rfl)))
          refine Chain.call' (a' := ?_) _ rfl rfl rfl rfl (fun wx hw hF => ?_) ?_ ?_
          rotate_left 1
          focus
            obtain ⟨g0, g1, g2⟩ := Blk.c3 (HY.out.below hw); go_simp; first | exact ⟨rfl, Below.refl _ _⟩ | exact Below.refl _ _
          focus (simp only [Act.put, List.setIfInBounds_toArray, List.set_cons_succ, List.set_cons_zero]; try rfl)
          repeat (first
            | (refine Chain.step (v := ?_) (a' := ?_) rfl rfl rfl ?_ ?_ ?_
               rotate_left 2
               focus (intro w; go_simp; try with_reducible rfl)
               focus (simp only [Act.put, List.setIfInBounds_toArray, List.set_cons_succ, List.set_cons_zero]; try rfl))
            | (refine Chain.skip (a' := ?_) rfl rfl rfl ?_ ?_
               rotate_left 1
               focus (simp only [Act.put, List.setIfInBounds_toArray, List.set_cons_succ, List.set_cons_zero]; try rfl)))
          refine Chain.call' (a' := ?_) _ rfl rfl rfl rfl (fun wx hw hF => ?_) ?_ ?_
          rotate_left 1
          focus
            go_simp; (with_reducible refine (HRY.out 6 _ b9 n2 _ ((HNS.out.below hw).base hw) (HNP.out.below hw)).mono ?_); exact (fun e w' ⟨h1, h2⟩ => by subst h1; exact ⟨rfl, h2⟩)
          focus (simp only [Act.put, List.setIfInBounds_toArray, List.set_cons_succ, List.set_cons_zero]; try rfl)
          repeat (first
            | (refine Chain.step (v := ?_) (a' := ?_) rfl rfl rfl ?_ ?_ ?_
               rotate_left 2
               focus (intro w; go_simp; try with_reducible rfl)
               focus (simp only [Act.put, List.setIfInBounds_toArray, List.set_cons_succ, List.set_cons_zero]; try rfl))
            | (refine Chain.skip (a' := ?_) rfl rfl rfl ?_ ?_
               rotate_left 1
               focus (simp only [Act.put, List.setIfInBounds_toArray, List.set_cons_succ, List.set_cons_zero]; try rfl)))
          refine Chain.end_ (fun wz hwz _ => ?_)
          go_wp2_with fail
          go_ret
          exact ⟨rfl, below_trans HB14.out hwz⟩
    · intro x y w6 cnt' hxl hlx hfx hy1 hy2 hr6 hlt hg6 hs6 hen
      have hM6 := hM.kept hg6 (by intro e; injection e with e; omega)
      go_wp2_with (at_mapUpdate; refine wpList_update_mp _ rfl _ _ _ 24 rfl marks_ty rfl hM6 (by unfold maxLen; omega) x rfl hxl y rfl hy1 hy2 ?_; intro w7 hm7 hg7; go_frame)
      have hr7 := hr6.block hg7 (by intro e; injection e with e; omega) (by intro e; injection e with e; omega)
      have hB7 := grown_below (grown_below hB hg6 (by omega) (Nat.le_refl _)) hg7 (Nat.le_refl _) (Nat.le_refl _)
      have e : upd (fun u => if left u = true then none else mf u) x y = fun u => if (left u && !(u == x)) = true then none else mf u := by
        funext u
        unfold upd
        by_cases hu : u = x
        · rw [if_pos hu, hu, hfx]; simp
        · rw [if_neg hu, show (u == x) = false from beq_eq_false_iff_ne.2 hu]; simp
      rw [e] at hm7
      have hm1 := hr.left_eq
      have hm2 := hr7.left_eq
      have HR7 := Lib.hid hr7
      have HM7 := Lib.hid hm7
      go_roundw
      case rel => exact ⟨_, cnt', nn + 1, HR7.out, by omega, HM7.out, hB7⟩
      case measure => rw [hm1, hm2]; exact hlt
open Go.ChangeShapes Go.WideShapes Go.ChangeAt
open Go.ChangeMaps (open_string shut_string)

set_option maxRecDepth 100000 in
theorem planMore_lifted (os : Os) (started : os.Started) (H : Type) (enc : TypeId × Value → H) :
    ReturnsInHanded {} Try.checked os 4 .any (Rows.planMoreSpec.pre6 enc Try.prog Try.f4 Rows.planMoreRow.domain false) (Rows.planMoreSpec.post enc Try.prog Try.f4 false true false false) := by
  refine returnsInHanded_of_change_sized (C := Try.checked) law_own started (by kernel_rfl) Try.func4
    (ChangeSpec.witness6 (enc := enc) (C := Try.checked) false ⟨#[], #[.slice none 0 0, .int .i64 0], []⟩ 8 (by kernel_rfl) (by kernel_rfl) (by kernel_rfl) (by kernel_rfl)) ?_
  intro W base args ds gs before hval0 hW _ hsz0 _
  have hval : ∀ (j : Nat) t v, Try.f4.params[j]? = some t → args[j]? = some v → Value.okWide Try.prog W .any base t v := hval0
  have hsz : (DataW.weightsEach Try.prog (Try.f4.params.toList ++ Rows.planMoreSpec.plain.varTypes Try.prog) (ds ++ gs)).all (· ≤ reachBytes) = true := hsz0
  have hW' := hW
  obtain ⟨p, q, hA0, hV, rfl, _, _⟩ := hW
  have hA : DataW.TrodAll enc Try.prog W 0 (fun _ => true) true Try.f4.params.toList args.toList ds p := hA0
  rw [Try.params4] at hA hval hsz
  obtain ⟨v0, vs0, d0, ds0, p0, q0, hargs, rfl, rfl, h0, r0⟩ := trodAll_cons hA
  obtain ⟨v1, vs1, d1, ds1, p1, q1, rfl, rfl, rfl, h1, r1⟩ := trodAll_cons r0
  obtain ⟨rfl, rfl, rfl⟩ := trodAll_nil r1
  obtain rfl : args = #[v0, v1] := by cases args; simp_all
  obtain ⟨rfl, rfl⟩ := trodVars_none hV
  obtain ⟨a1, rfl, rfl, rfl, w1⟩ := open_int Try.underlying2 (hval 1 2 v1 rfl rfl) h1
  obtain ⟨ts0, hts0⟩ := open_ones (hval 0 22 v0 rfl rfl) h0
  refine (planMore_walk0 v0 ts0 a1 w1 W hts0).mono fun e W' ⟨he, hb⟩ => ?_
  subst he
  exact ⟨_, rfl, law_post law_laid (by intro t ht; rw [Try.params4] at ht; simp only [List.mem_cons, List.not_mem_nil, or_false] at ht; rcases ht with rfl | rfl <;> exact ⟨by kernel_rfl, of_decide_eq_true (by kernel_rfl)⟩) rfl Try.underlying4 rfl rfl hW' hb⟩

theorem planMore_holds : Rows.PlanMoreSaid :=
  OpenClaim.holds_of_wide 4 Try.f4 rfl rfl rfl rfl rfl rfl rfl ⟨rfl, rfl, rfl, rfl, rfl⟩ rfl rfl rfl rfl rfl (by kernel_rfl) Try.func4 (by kernel_rfl)
    (of_decide_eq_true (by kernel_rfl)) (by unfold Func.isWrapper; first | (rw [if_pos (by decide +kernel)]; kernel_rfl) | (rw [if_neg (by decide +kernel)]; exact ⟨rfl, rfl⟩))
    (fun os started H enc _ => planMore_lifted os started H enc)

end Go.Proofs.Ytemmgejaoegpfaa
