/-
  Layer 20: PlanNext holds: of any blocks the plan, what is to be marked, the rank are the document's. No condition.
-/
import Derived.Test.YtemmgejaoegpfaaZPlnL
import Derived.Test.YtemmgejaoegpfaaZPlnM
import Derived.Test.YtemmgejaoegpfaaZLib9
import Derived.Test.YtemmgejaoegpfaaRows

namespace Go.Proofs.Ytemmgejaoegpfaa
open Go.RowKit Go.Bar Go.Bar.Leb Go.Bar.Frm Go.Bar.Idt Go.Bar.Met Go.Bar.Pln

theorem mkF_nn (L : List On) : ∀ id z, mkF L id = some z → 0 ≤ z := by
  intro id z h
  unfold mkF at h
  cases hm : isMk L id
  · rw [hm] at h; cases h
  · rw [hm] at h
    injection h with h
    omega
theorem BlsAt.up {w0 w w' : World} {v : Value} {l : List Mt} {mf : Marks} (h : BlsAt w0 w v l mf) (hb0 : Below w0.heap.size w0 w') (hb : Below w.heap.size w w') : BlsAt w' w' v l mf := by
  obtain ⟨ts, h1, h2, h3, h4⟩ := h
  exact ⟨ts, h1, h2.below hb, fun x hx => (h3 x hx).below hb0, h4⟩

set_option maxHeartbeats 16000000 in
set_option maxRecDepth 10000 in
theorem planNext_walk0 (v : Value) (l : List On) (z : Int) (hz : (Lit.int .i64 z).wf = true) (a : Int) (ha : (Lit.int .i64 a).wf = true) (w : World) (h : OnsAt w v l) :
    Calls Try.prog 3 #[v, .int .i64 z, .int .i64 a] w (RetBelow w (.bool true)) := by
  have hwd := wdOf_rng z
  have ht := tmod_small z
  have e1 : IntKind.i64.wrap (z.tmod 1000 + 1000) = z.tmod 1000 + 1000 := by rw [IntKind.wrap_i64]; omega
  have e2 : IntKind.i64.wrap (1 + (z.tmod 1000 + 1000).tmod 1000) = wdOf z := by
    have : 1 + (z.tmod 1000 + 1000).tmod 1000 = wdOf z := rfl
    rw [this, IntKind.wrap_i64]; omega
  have e3 : IntKind.i64.wrap (1 + (z.tmod 1000 + 1000) % 1000) = wdOf z := by
    rw [← Int.tmod_eq_emod_of_nonneg (by omega)]; exact e2
  have e4 : 1 + z.tmod 1000 % 1000 = wdOf z := by
    unfold wdOf
    rw [Int.tmod_eq_emod_of_nonneg (a := z.tmod 1000 + 1000) (by omega)]
    omega
  have hl := fun w' (hb : Below w.heap.size w w') => listing_any v l (wdOf z) w' (h.below hb) hwd.1 hwd.2
  have HL := Lib.hid hl
  have hlst := mkL_lst hwd.1 hwd.2 (l.take 12) (by rw [List.length_take]; omega)
  have h20 : (freeU (mkL (wdOf z) (l.take 12)) (mkF (l.take 12))).length < 20 := Nat.lt_of_le_of_lt (freeU_len _ _) (by rw [mkL_len, List.length_take]; omega)
  have hnn := mkF_nn (l.take 12)
  obtain ⟨L, hL⟩ : ∃ L, L = mkL (wdOf z) (l.take 12) := ⟨_, rfl⟩
  obtain ⟨mf, hmf⟩ : ∃ mf, mf = mkF (l.take 12) := ⟨_, rfl⟩
  rw [← hL] at HL hlst h20
  rw [← hmf] at HL h20 hnn
  obtain ⟨wd, hwd'⟩ : ∃ wd, wd = wdOf z := ⟨_, rfl⟩
  rw [← hwd'] at HL hwd e2 e3 e4
  obtain ⟨asked, hask⟩ : ∃ asked, asked = min a 5000 := ⟨_, rfl⟩
  have hask5 : asked ≤ 100000 := by omega
  have hsn : (srcs L).length ≤ 1000000000 := by
    have := srcs_len hlst L.length
    rw [List.take_length] at this
    omega
  have hnx := fun (mv : Value) (mb n : Nat) (w' : World) (h1 : MsAt w' w' mv L) (h2 : Mp w' mb n mf) => next_any 5 asked mv L mb n mf w' w' (Below.refl _ _) h1 h2 hlst h20 hask5
  have hrn := fun (tv : Value) (w' : World) (h1 : BlsAt w' w' tv L mf) => next_any20 5 asked tv L mf w' h1 hlst hsn hnn hask5
  have hrk := fun (mv : Value) (mb n : Nat) (w' : World) (h1 : MsAt w' w' mv L) (h2 : Mp w' mb n mf) => rank_any 5 mv L mb n mf w' w' (Below.refl _ _) h1 h2 hlst h20
  have htm := fun (mv : Value) (mb n : Nat) (w' : World) (h1 : MsAt w' w' mv L) (h2 : Mp w' mb n mf) => toMark_any 5 mv L mb n mf w' h1 h2 hlst
  have hfr := fun (tv : Value) (w' : World) (h1 : BlsAt w' w' tv L mf) => free_bls 5 tv L mf w' w' (Below.refl _ _) h1 hlst hsn hnn
  have hrt : ∀ (tv : Value) (w' : World) (h1 : BlsAt w' w' tv L mf), Calls Try.prog 13 #[.agg #[.int .i64 5, tv]] w' (RetSs w' (toMark L mf)) := by
    intro tv w' ⟨ts, h1, h2, h3, h4⟩
    subst h1
    have hl1 := hlst.len
    rw [List.length_map] at hl1
    refine toMark_any20 5 tv ts mf w' w' (Below.refl _ _) ⟨h2, h3⟩ hl1 hsn (fun x hx => ?_)
    rw [h4 x hx]
    rcases hk : mf x.1.m.id with _ | q
    · simp
    · have := hnn _ _ hk
      simp; omega
  have hfs : ∀ p, Pln.next L mf asked = some p → ∀ m ∈ p.ms, m.fs.length ≤ 1000 := by
    have hmx : Pln.next L mf asked = Pln.next L mf (max asked 1) := by unfold Pln.next nextOf; rw [show max (max asked 1) 1 = max asked 1 by omega]
    intro p hp m hm
    rw [hmx] at hp
    have hsub := plan_sub (by omega) hp
    obtain ⟨f, g, e, _⟩ := (hlst.sm m (free_mem (hsub.mem hm)).1).fs
    rw [e]
    show 2 ≤ 1000
    omega
  have hrkv : rank L mf = max (((free L mf).length : Int) - 1) 0 := rfl
  have hfl : (free L mf).length ≤ 1000 := Nat.le_trans (free_length L mf) hlst.len
  obtain ⟨on, hon⟩ : ∃ on, on = Pln.next L mf asked := ⟨_, rfl⟩
  rw [← hon] at hnx hrn hfs
  obtain ⟨FN, hFN⟩ : ∃ FN, FN = (free L mf).length := ⟨_, rfl⟩
  rw [← hFN] at hrkv hfl
  obtain ⟨RK, hRK⟩ : ∃ RK, RK = rank L mf := ⟨_, rfl⟩
  rw [← hRK] at hrk hrkv
  obtain ⟨TM, hTM⟩ : ∃ TM, TM = toMark L mf := ⟨_, rfl⟩
  rw [← hTM] at htm hrt
  have hfr2 : ∀ (tv : Value) (w' : World) (h1 : BlsAt w' w' tv L mf), Calls Try.prog 15 #[.agg #[.int .i64 5, tv]] w' (fun e w'' => ∃ A c, e = .returned (.slice A FN c) ∧ Below w'.heap.size w' w'') := fun tv w' h1 => (hfr tv w' h1).mono (by
    rintro e w'' ⟨v, rfl, hn⟩
    obtain ⟨A, c, rfl, _⟩ := hn.shape
    rw [hFN]
    exact ⟨A, c, rfl, hn.below_⟩)
  have HNX := Lib.hid hnx
  have HRN := Lib.hid hrn
  have HRK := Lib.hid hrk
  have HTM := Lib.hid htm
  have HFR := Lib.hid hfr2
  have HRT := Lib.hid hrt
  have HFS := Lib.hid hfs
  have HRKV := Lib.hid hrkv
  have hw9 : IntKind.i64.wrap ((FN : Int) - 1) = (FN : Int) - 1 := by rw [IntKind.wrap_i64]; omega
  have ham := hask.symm
  clear hl hL hmf hwd' h20 hnx hrn hrk htm hfr hfr2 hrt hfs hrkv hon hFN hRK hTM hlst hnn hsn hask hask5
  obtain ⟨A, c, rfl, _, _⟩ := h.shape
  go_enter Try.func3, Try.ntmps3
  go_wp2_with fail
  refine (HL.out _ (Below.refl _ _)).mono ?_
  rintro e w1 ⟨lv, tv, rfl, hli, hbl, hb1⟩
  obtain ⟨mv, mb, rfl, hms, hmp⟩ := hli
  obtain ⟨mA, mc, rfl, _⟩ := hms.shape
  have hbl0 := hbl
  obtain ⟨ts, ht1, ht2, _⟩ := hbl0
  obtain ⟨tA, tc, rfl, _⟩ := ht2.shape
  obtain ⟨tn, htn⟩ : ∃ tn, tn = ts.length := ⟨_, rfl⟩
  rw [← htn] at hbl ⊢
  clear ht1 ht2 e1 e2 e3 e4 HL htn
  have b2 := below_trans (below_al w1 (.cells #[.int .i64 5, .slice mA L.length mc, .map (some mb)] 26)) (below_al _ (.cells #[.int .i64 5, .slice tA tn tc] 29))
  have L2 := (Blk.new w1 #[.int .i64 5, .slice mA L.length mc, .map (some mb)] 26).below (below_al _ (.cells #[.int .i64 5, .slice tA tn tc] 29))
  have K2 := Blk.new (w1.alloc (.cells #[.int .i64 5, .slice mA L.length mc, .map (some mb)] 26)) #[.int .i64 5, .slice tA tn tc] 29
  have B2 := below_trans hb1 b2
  have ms2 := (hms.below b2).base b2
  have mp2 := hmp.below b2
  have bl2 := hbl.up b2 b2
  clear hb1 b2 hms hmp hbl
  go_upto_region 4 with fail
  obtain ⟨w2, hw2⟩ : ∃ w2, w2 = (w1.alloc (.cells #[.int .i64 5, .slice mA L.length mc, .map (some mb)] 26)).alloc (.cells #[.int .i64 5, .slice tA tn tc] 29) := ⟨_, rfl⟩
  rw [← hw2] at L2 K2 B2 ms2 mp2 bl2 ⊢
  rw [show (w1.alloc (.cells #[.int .i64 5, .slice mA L.length mc, .map (some mb)] 26)).heap.size = w1.heap.size + 1 by simp] at K2
  obtain ⟨X, hX⟩ : ∃ X, X = w1.heap.size := ⟨_, rfl⟩
  obtain ⟨LN, hLN⟩ : ∃ LN, LN = L.length := ⟨_, rfl⟩
  rw [← hX, ← hLN] at L2
  rw [← hX] at K2 ⊢
  rw [← hLN] at ms2 ⊢
  have HST : Hid (∀ w', Below w2.heap.size w2 w' → Below w.heap.size w w' ∧ MsAt w' w' (.slice mA LN mc) L ∧ Mp w' mb 12 mf ∧ BlsAt w' w' (.slice tA tn tc) L mf ∧ Blk w' X 26 #[.int .i64 5, .slice mA LN mc, .map (some mb)] ∧ Blk w' (X + 1) 29 #[.int .i64 5, .slice tA tn tc]) :=
    Lib.hid (fun w' hb => ⟨below_trans B2 hb, (ms2.below hb).base hb, mp2.below hb, bl2.up hb hb, L2.below hb, K2.below hb⟩)
  clear hw2 hX hLN L2 K2 B2 ms2 mp2 bl2
  have hcut : ∀ Q : World → Prop, True := fun _ => trivial
  clear hcut
  obtain ⟨B2, ms2, mp2, bl2, L2, K2⟩ := HST.out w2 (Below.refl _ _)
  obtain ⟨g0, g1, g2⟩ := L2.c3
  clear B2 bl2 L2 K2
  have hfsP : ∀ m ∈ (on.getD pl0).ms, m.fs.length ≤ 1000 := by
    rcases on with _ | P
    · intro m hm; cases hm
    · exact HFS.out P rfl
  have hsP : on.isSome = false → (on.getD pl0).ms.length = 0 := by
    rcases on with _ | P
    · intro; rfl
    · intro h; cases h
  obtain ⟨P, hP⟩ : ∃ P, P = on.getD pl0 := ⟨_, rfl⟩
  obtain ⟨s, hs⟩ : ∃ s, s = on.isSome := ⟨_, rfl⟩
  rw [← hP] at hfsP hsP
  rw [← hs] at hsP
  have HFP := Lib.hid hfsP
  have HSP := Lib.hid hsP
  have HP := Lib.hid hP
  have HS := Lib.hid hs
  clear hfsP hsP hP hs HFS
  go_wp2_with fail
  refine (HNX.out _ _ 12 w2 ms2 mp2).mono ?_
  rintro e w3 ⟨pv, rfl, hpv⟩
  rw [← HP.out] at hpv ⊢
  rw [← HS.out]
  obtain ⟨pA, pc, rfl, _⟩ := hpv.shape
  obtain ⟨n, hn⟩ : ∃ n, n = P.ms.length := ⟨_, rfl⟩
  rw [← hn] at hpv ⊢
  have HN := Lib.hid hn
  unfold plV
  dsimp only
  have P3 := Blk.new w3 #[.int .i64 P.fr, .int .i64 P.to_, .int .i64 P.lv, .slice pA n pc] 33
  have b3 := below_trans hpv.below_ (below_al w3 (.cells #[.int .i64 P.fr, .int .i64 P.to_, .int .i64 P.lv, .slice pA n pc] 33))
  have pv3 := hpv.slice.below (below_al w3 (.cells #[.int .i64 P.fr, .int .i64 P.to_, .int .i64 P.lv, .slice pA n pc] 33))
  clear hpv ms2 mp2 g0 g1 g2 hn
  go_upto_region 5 with fail
  obtain ⟨w4, hw4⟩ : ∃ w4, w4 = w3.alloc (.cells #[.int .i64 P.fr, .int .i64 P.to_, .int .i64 P.lv, .slice pA n pc] 33) := ⟨_, rfl⟩
  obtain ⟨PX, hPX⟩ : ∃ PX, PX = w3.heap.size := ⟨_, rfl⟩
  rw [← hw4, ← hPX] at P3
  rw [← hw4] at b3 pv3 ⊢
  rw [← hPX]
  clear hw4 hPX
  obtain ⟨_, _, _, bl4, _, K4⟩ := HST.out _ b3
  obtain ⟨k0, k1⟩ := K4.c2
  go_wp2_with fail
  refine (HRN.out _ _ bl4).mono ?_
  rintro e w5 ⟨qv, rfl, hqv⟩
  rw [← HP.out] at hqv ⊢
  rw [← HS.out]
  obtain ⟨qA, qc, rfl, _⟩ := hqv.shape
  rw [← HN.out] at hqv ⊢
  unfold plV
  dsimp only
  have Q5 := Blk.new w5 #[.int .i64 P.fr, .int .i64 P.to_, .int .i64 P.lv, .slice qA n qc] 38
  have b5 := below_al w5 (.cells #[.int .i64 P.fr, .int .i64 P.to_, .int .i64 P.lv, .slice qA n qc] 38)
  have b6 := below_trans hqv.below_ b5
  have P6 := P3.below b6
  have b7 := below_trans b3 b6
  have pv6 := ((pv3.below b6).base (below_trans (below_trans (Below.refl _ _) b3) b6))
  have qv6 := (hqv.slice.below b5).base b6
  clear hqv k0 k1 K4 bl4 P3 b3 b6 b5 pv3
  go_upto_region 6 with fail
  obtain ⟨w6, hw6⟩ : ∃ w6, w6 = w5.alloc (.cells #[.int .i64 P.fr, .int .i64 P.to_, .int .i64 P.lv, .slice qA n qc] 38) := ⟨_, rfl⟩
  obtain ⟨QX, hQX⟩ : ∃ QX, QX = w5.heap.size := ⟨_, rfl⟩
  rw [← hw6, ← hQX] at Q5
  rw [← hw6] at P6 b7 pv6 qv6 ⊢
  rw [← hQX]
  clear hw6 hQX
  go_cut [66] from 41 (fun t wx => t = .bool false ∧ Below w2.heap.size w2 wx)
  case first =>
    go_wp2_with fail
    refine (awake_any _).mono ?_
    rintro e w8 ⟨rfl, hb8⟩
    have P8 := P6.below hb8
    have b8 := below_trans b7 hb8
    have Q8 := Q5.below hb8
    have pv8 := (pv6.below hb8).base hb8
    have qv8 := (qv6.below hb8).base hb8
    have hsa := same_any20 P _ _ w8 w8 (Below.refl _ _) pv8 qv8 HFP.out
    have HSA := Lib.hid hsa
    obtain ⟨p0, p1, p2, p3⟩ := P8.c4
    obtain ⟨q0, q1, q2, q3⟩ := Q8.c4
    clear P6 b7 hb8 Q5 pv6 qv6 pv8 qv8 hsa
    unfold plV at HSA
    have HSZ := Lib.hid (show s = false → n = 0 from fun h => by rw [HN.out]; exact HSP.out h)
    cases s
    · obtain rfl : n = 0 := HSZ.out rfl
      go_wp2_with fail
      go_meet
      case rel => exact ⟨rfl, b8⟩
    · go_wp2_with fail
      refine HSA.out.mono ?_
      rintro e w9 ⟨rfl, hb9⟩
      have b9 := below_trans b8 hb9
      clear p0 p1 p2 p3 q0 q1 q2 q3
      go_wp2_with fail
      go_meet
      case rel => exact ⟨rfl, b9⟩
  case rest =>
    obtain ⟨rfl, b9⟩ := hcut
    clear P6 b7 Q5 pv6 qv6 HN HSP HFP HP HS HNX HRN
    obtain ⟨_, ms9, mp9, _, L9, _⟩ := HST.out _ b9
    obtain ⟨g0, g1, g2⟩ := L9.c3
    go_wp2_with fail
    refine (HTM.out _ _ 12 _ ms9 mp9).mono ?_
    rintro e w10 ⟨v10, rfl, hn10⟩
    obtain ⟨A10, c10, rfl, hc10⟩ := hn10.buf.shape
    have b10 := below_trans b9 hn10.below
    clear g0 g1 g2 ms9 mp9 L9
    obtain ⟨_, _, _, bl10, _, K10⟩ := HST.out _ b10
    obtain ⟨k0, k1⟩ := K10.c2
    go_wp2_with fail
    refine (HRT.out _ _ bl10).mono ?_
    rintro e w11 ⟨v11, rfl, hn11⟩
    obtain ⟨A11, c11, rfl, hc11⟩ := hn11.buf.shape
    have b11 := below_trans b10 hn11.below
    have S10 := Lib.hid (hn10.slice.below hn11.below)
    have S11 := Lib.hid hn11.slice
    clear k0 k1 bl10 K10 hn10 hn11 b9 b10
    have HB11 := Lib.hid b11
    have hrv := HRKV.out
    have HRV := Lib.hid hrv
    clear b11 hrv
    go_upto_region 10 with fail
    refine wp_region_facts [(6, (isV (.agg #[.int .i64 5, .slice mA LN mc, .map (some mb)]), noFact)), (7, (isV (.int .i64 RK), noFact)), (8, (isV (.agg #[.int .i64 5, .slice tA tn tc]), noFact)), (9, ((fun v => ∃ A c, v = .slice A FN c), noFact))] (by kernel_rfl) 101 (by kernel_rfl) rfl ?_ ?_ ?_
    · apply lookup_ne
      simp only [List.forall_mem_cons, List.not_mem_nil, false_imp_iff, implies_true, and_true]
      exact ⟨⟨_, rfl⟩, ⟨_, rfl⟩, ⟨_, rfl⟩, ⟨_, none, 0, rfl⟩⟩
    · apply lookup_st
      simp only [List.forall_mem_cons, List.not_mem_nil, false_imp_iff, implies_true, and_true]
      refine ⟨?_, ?_, ?_, ?_⟩
      · exact fun _ _ _ _ _ => trivial
      · exact fun _ _ _ _ _ => trivial
      · exact fun _ _ _ _ _ => trivial
      · exact fun _ _ _ _ _ => trivial
    repeat (first
      | (refine Chain.step (v := ?_) (a' := ?_) rfl rfl rfl ?_ ?_ ?_
         rotate_left 2
         focus (intro w; go_simp; try with_reducible rfl)
         focus (simp only [Act.put, List.setIfInBounds_toArray, List.set_cons_succ, List.set_cons_zero]; try rfl))
      | (refine Chain.skip (a' := ?_) rfl rfl rfl ?_ ?_
         rotate_left 1
         focus (simp only [Act.put, List.setIfInBounds_toArray, List.set_cons_succ, List.set_cons_zero]; try rfl)))
    refine Chain.call' (a' := ?_) _ rfl rfl rfl rfl (fun wx hw hF => ?_) ?_ ?_
    rotate_left 1
    focus
      obtain ⟨_, _, _, _, L5, _⟩ := HST.out _ (below_trans HB11.out hw)
      obtain ⟨g0, g1, g2⟩ := Blk.c3 (L5); go_simp; first | exact ⟨rfl, Below.refl _ _⟩ | exact Below.refl _ _
    focus (simp only [Act.put, List.setIfInBounds_toArray, List.set_cons_succ, List.set_cons_zero]; try rfl)
    repeat (first
      | (refine Chain.step (v := ?_) (a' := ?_) rfl rfl rfl ?_ ?_ ?_
         rotate_left 2
         focus (intro w; go_simp; try with_reducible rfl)
         focus (simp only [Act.put, List.setIfInBounds_toArray, List.set_cons_succ, List.set_cons_zero]; try rfl))
      | (refine Chain.skip (a' := ?_) rfl rfl rfl ?_ ?_
         rotate_left 1
         focus (simp only [Act.put, List.setIfInBounds_toArray, List.set_cons_succ, List.set_cons_zero]; try rfl)))
    refine Chain.call' (a' := ?_) _ rfl rfl rfl rfl (fun wx hw hF => ?_) ?_ ?_
    rotate_left 1
    focus
      obtain ⟨_, m5, p5, _, _, _⟩ := HST.out _ (below_trans HB11.out hw)
      go_simp; (with_reducible refine (HRK.out _ _ 12 _ m5 p5).mono ?_); exact (fun e w' ⟨h1, h2⟩ => by subst h1; exact ⟨rfl, h2⟩)
    focus (simp only [Act.put, List.setIfInBounds_toArray, List.set_cons_succ, List.set_cons_zero]; try rfl)
    repeat (first
      | (refine Chain.step (v := ?_) (a' := ?_) rfl rfl rfl ?_ ?_ ?_
         rotate_left 2
         focus (intro w; go_simp; try with_reducible rfl)
         focus (simp only [Act.put, List.setIfInBounds_toArray, List.set_cons_succ, List.set_cons_zero]; try rfl))
      | (refine Chain.skip (a' := ?_) rfl rfl rfl ?_ ?_
         rotate_left 1
         focus (simp only [Act.put, List.setIfInBounds_toArray, List.set_cons_succ, List.set_cons_zero]; try rfl)))
    refine Chain.call' (a' := ?_) _ rfl rfl rfl rfl (fun wx hw hF => ?_) ?_ ?_
    rotate_left 1
    focus
      obtain ⟨_, _, _, _, _, K5⟩ := HST.out _ (below_trans HB11.out hw)
      obtain ⟨g0, g1⟩ := Blk.c2 (K5); go_simp; first | exact ⟨rfl, Below.refl _ _⟩ | exact Below.refl _ _
    focus (simp only [Act.put, List.setIfInBounds_toArray, List.set_cons_succ, List.set_cons_zero]; try rfl)
    repeat (first
      | (refine Chain.step (v := ?_) (a' := ?_) rfl rfl rfl ?_ ?_ ?_
         rotate_left 2
         focus (intro w; go_simp; try with_reducible rfl)
         focus (simp only [Act.put, List.setIfInBounds_toArray, List.set_cons_succ, List.set_cons_zero]; try rfl))
      | (refine Chain.skip (a' := ?_) rfl rfl rfl ?_ ?_
         rotate_left 1
         focus (simp only [Act.put, List.setIfInBounds_toArray, List.set_cons_succ, List.set_cons_zero]; try rfl)))
    refine Chain.make _ _ rfl rfl rfl (fun wx hw hF => ?_) (fun v9 hv9 a' ha => ?_)
    focus
      obtain ⟨_, _, _, b5, _, _⟩ := HST.out _ (below_trans HB11.out hw)
      go_simp
      with_reducible refine (HFR.out _ _ b5).mono ?_
      rintro e w' ⟨A, c, rfl, hb⟩
      exact ⟨hb, ⟨A, c, rfl⟩, trivial⟩
    obtain ⟨A9, c9, rfl⟩ := hv9
    simp only [Act.put, List.setIfInBounds_toArray, List.set_cons_succ, List.set_cons_zero] at ha
    subst ha
    repeat (first
      | (refine Chain.step (v := ?_) (a' := ?_) rfl rfl rfl ?_ ?_ ?_
         rotate_left 2
         focus (intro w; go_simp; try with_reducible rfl)
         focus (simp only [Act.put, List.setIfInBounds_toArray, List.set_cons_succ, List.set_cons_zero]; try rfl))
      | (refine Chain.skip (a' := ?_) rfl rfl rfl ?_ ?_
         rotate_left 1
         focus (simp only [Act.put, List.setIfInBounds_toArray, List.set_cons_succ, List.set_cons_zero]; try rfl)))
    refine Chain.end_ (fun wz hwz _ => ?_)
    have hB := below_trans HB11.out hwz
    have HBW := Lib.hid (HST.out _ hB).1
    have hrv := HRV.out
    clear hB
    go_wp2_with fail
    clear hrv HRKV HRV
    have T10 := Lib.hid (S10.out.below (below_trans (Below.refl _ _) hwz))
    have T11 := Lib.hid (S11.out.below hwz)
    obtain ⟨T, hT⟩ : ∃ T, T = TM.length := ⟨_, rfl⟩
    have HTL := Lib.hid hT
    rw [← hT]
    have hTm : T ≤ 9223372036854775807 := by
      obtain ⟨_, _, he, h1, h2⟩ := SlAt.shape T10.out
      unfold maxLen at h2
      omega
    clear hT hwz
    go_loopw [88] (fun i wr => ∃ k : Nat, i = .int .i64 k ∧ k ≤ T ∧ Below wz.heap.size wz wr) (fun i _ => T - (intOf i).toNat)
    case atStart => exact ⟨0, rfl, Nat.zero_le _, Below.refl _ _⟩
    case round =>
      obtain ⟨k, rfl, hk, hb⟩ := hrel
      by_cases hgo : k < T
      · obtain ⟨x, hx⟩ : ∃ x, TM[k]? = some x := ⟨_, List.getElem?_eq_getElem (by rw [← HTL.out]; exact hgo)⟩
        obtain ⟨xb, xo, rfl, xl, xc⟩ := SrcAt.at_ (show SrcAt wr (.slice A10 TM.length c10) TM from T10.out.below hb) hx
        obtain ⟨yb, yo, rfl, yl, yc⟩ := SrcAt.at_ (show SrcAt wr (.slice A11 TM.length c11) TM from T11.out.below hb) hx
        have hci : (k : Int) < (T : Int) := by omega
        have hci0 : (0 : Int) ≤ (k : Int) := by omega
        clear hx
        go_wp2_with fail
        go_quiet (fail)
        go_wp2_with fail
        go_roundw
        case rel => exact ⟨k + 1, by go_num, by omega, (by first | exact hb | exact hb.drewN _ | exact below_trans hb (below_draws _ _))⟩
        case measure => simp [intOf]; omega
      · obtain rfl : k = T := by omega
        have HB := Lib.hid (below_trans HBW.out hb)
        clear hb
        go_wp2_with fail
        go_ret
        exact ⟨rfl, HB.out⟩

open Go.ChangeShapes Go.WideShapes Go.ChangeAt
open Go.ChangeMaps (open_string shut_string)

set_option maxRecDepth 100000 in
theorem planNext_lifted (os : Os) (started : os.Started) (H : Type) (enc : TypeId × Value → H) :
    ReturnsInHanded {} Try.checked os 3 .any (Rows.planNextSpec.pre6 enc Try.prog Try.f3 Rows.planNextRow.domain false) (Rows.planNextSpec.post enc Try.prog Try.f3 false true false false) := by
  refine returnsInHanded_of_change_sized (C := Try.checked) law_own started (by kernel_rfl) Try.func3
    (ChangeSpec.witness6 (enc := enc) (C := Try.checked) false ⟨#[], #[.slice none 0 0, .int .i64 0, .int .i64 0], []⟩ 8 (by kernel_rfl) (by kernel_rfl) (by kernel_rfl) (by kernel_rfl)) ?_
  intro W base args ds gs before hval0 hW _ hsz0 _
  have hval : ∀ (j : Nat) t v, Try.f3.params[j]? = some t → args[j]? = some v → Value.okWide Try.prog W .any base t v := hval0
  have hsz : (DataW.weightsEach Try.prog (Try.f3.params.toList ++ Rows.planNextSpec.plain.varTypes Try.prog) (ds ++ gs)).all (· ≤ reachBytes) = true := hsz0
  have hW' := hW
  obtain ⟨p, q, hA0, hV, rfl, _, _⟩ := hW
  have hA : DataW.TrodAll enc Try.prog W 0 (fun _ => true) true Try.f3.params.toList args.toList ds p := hA0
  rw [Try.params3] at hA hval hsz
  obtain ⟨v0, vs0, d0, ds0, p0, q0, hargs, rfl, rfl, h0, r0⟩ := trodAll_cons hA
  obtain ⟨v1, vs1, d1, ds1, p1, q1, rfl, rfl, rfl, h1, r1⟩ := trodAll_cons r0
  obtain ⟨v2, vs2, d2, ds2, p2, q2, rfl, rfl, rfl, h2, r2⟩ := trodAll_cons r1
  obtain ⟨rfl, rfl, rfl⟩ := trodAll_nil r2
  obtain rfl : args = #[v0, v1, v2] := by cases args; simp_all
  obtain ⟨rfl, rfl⟩ := trodVars_none hV
  obtain ⟨a1, rfl, rfl, rfl, w1⟩ := open_int Try.underlying2 (hval 1 2 v1 rfl rfl) h1
  obtain ⟨a2, rfl, rfl, rfl, w2⟩ := open_int Try.underlying2 (hval 2 2 v2 rfl rfl) h2
  obtain ⟨ts0, hts0⟩ := open_ones (hval 0 22 v0 rfl rfl) h0
  refine (planNext_walk0 v0 ts0 a1 w1 a2 w2 W hts0).mono fun e W' ⟨he, hb⟩ => ?_
  subst he
  exact ⟨_, rfl, law_post law_laid (by intro t ht; rw [Try.params3] at ht; simp only [List.mem_cons, List.not_mem_nil, or_false] at ht; rcases ht with rfl | rfl | rfl <;> exact ⟨by kernel_rfl, of_decide_eq_true (by kernel_rfl)⟩) rfl Try.underlying4 rfl rfl hW' hb⟩

theorem planNext_holds : Rows.PlanNextSaid :=
  OpenClaim.holds_of_wide 3 Try.f3 rfl rfl rfl rfl rfl rfl rfl ⟨rfl, rfl, rfl, rfl, rfl⟩ rfl rfl rfl rfl rfl (by kernel_rfl) Try.func3 (by kernel_rfl)
    (of_decide_eq_true (by kernel_rfl)) (by unfold Func.isWrapper; first | (rw [if_pos (by decide +kernel)]; kernel_rfl) | (rw [if_neg (by decide +kernel)]; exact ⟨rfl, rfl⟩))
    (fun os started H enc _ => planNext_lifted os started H enc)

end Go.Proofs.Ytemmgejaoegpfaa
