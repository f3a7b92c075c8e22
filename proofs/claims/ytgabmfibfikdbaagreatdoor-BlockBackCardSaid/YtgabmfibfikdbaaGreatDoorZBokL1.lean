/-
  A table goes as a block, and comes back (block.Build, Files.Table): of any samples, and of any one row of at most 400. No condition.
-/
import Derived.Test.YtgabmfibfikdbaaGreatDoorZBokJ
import Derived.Test.YtgabmfibfikdbaaGreatDoorTie
import Derived.Test.YtgabmfibfikdbaaGreatDoorCards

namespace Go.Proofs.YtgabmfibfikdbaaGreatDoor
open Go.RowKit Go.Bar Go.Bar.Leb Go.Bar.Frm Go.Bar.Lab Go.Bar.Xor Go.Bar.Mrg Go.Bar.Met Go.Bar.Bok Go.ChangeShapes Go.WideShapes Go.ChangeAt

/-- a table as the document has it -/
def RetTd (w : World) (R : List Row) (e : Ending) (w' : World) : Prop := ∃ v t, e = .returned v ∧ Below w.heap.size w w' ∧ TbAt w' v t ∧ t.map plR = R
theorem told_small {a b : Int} {v : Value} {t : List Rv} {w : World} {R : List Row} (h : TbAt w v t) (hR : t.map plR = R) (hs : SmallT a b R) : Calls Tryz.prog 29 #[v] w (RetTd w R) := by
  have hl : t.length = R.length := by rw [← hR, List.length_map]
  have hn := hs.n
  refine (told14_any v t w h (by omega) (fun x hx => ?_)).mono ?_
  · have hm : plR x ∈ R := hR ▸ List.mem_map_of_mem hx
    obtain ⟨k, hk⟩ := hs.lab _ hm
    have h2 := lab5_len k
    rw [← hk] at h2
    have h2 : x.ls.length ≤ 2 := h2
    omega
  · rintro e w' ⟨v, t2, rfl, hd, he⟩
    have hr := hd.rtb (Below.refl _ _)
    exact ⟨v, t2, rfl, hr.1.below, hr.tb, he.trans hR⟩

set_option maxHeartbeats 16000000 in
set_option maxRecDepth 10000 in
theorem blockBack_walk0 (v : Value) (l : List On3) (n : Int) (_ : (Lit.int .i64 n).wf = true) (step : Int) (_ : (Lit.int .i64 step).wf = true) (W : World) (h : O3Arg W v l) (hW : WidthsAt W) :
    Calls Tryz.prog 6 #[v, .int .i64 n, .int .i64 step] W (RetBelow W (.bool true)) := by
  have hm : ∀ w, Calls Tryz.prog 30 #[.int .i64 2, .int .i64 2] w (RetBelow w (.tuple #[.string (bs (Idt.mk 2 2)), .int .i64 0])) := fun w => make_ok 2 2 w ⟨by decide, by decide⟩ ⟨by decide, by decide⟩
  -- the step and the number of samples
  have r1 : -1000 < step.tmod 1000 ∧ step.tmod 1000 < 1000 := ⟨by have := Int.lt_tmod_of_pos step (show (0 : Int) < 1000 by decide); omega, Int.tmod_lt_of_pos step (by decide)⟩
  have r2 : 0 ≤ (step.tmod 1000 + 1000).tmod 1000 ∧ (step.tmod 1000 + 1000).tmod 1000 < 1000 := by rw [Int.tmod_eq_emod_of_nonneg (by omega)]; omega
  obtain ⟨st, hst'⟩ : ∃ st : Nat, 1 + (step.tmod 1000 + 1000).tmod 1000 = (st : Int) := ⟨(1 + (step.tmod 1000 + 1000).tmod 1000).toNat, by omega⟩
  have hst1 : 0 < st ∧ st ≤ 1000 := by omega
  have q1 : -400 < n.tmod 400 ∧ n.tmod 400 < 400 := ⟨by have := Int.lt_tmod_of_pos n (show (0 : Int) < 400 by decide); omega, Int.tmod_lt_of_pos n (by decide)⟩
  have q2 : 0 ≤ (n.tmod 400 + 400).tmod 400 ∧ (n.tmod 400 + 400).tmod 400 < 400 := by rw [Int.tmod_eq_emod_of_nonneg (by omega)]; omega
  obtain ⟨m, hm'⟩ : ∃ m : Nat, 1 + (n.tmod 400 + 400).tmod 400 = (m : Int) := ⟨(1 + (n.tmod 400 + 400).tmod 400).toNat, by omega⟩
  have hm1 : 0 < m ∧ m ≤ 400 := by omega
  have e1 : IntKind.i64.wrap (step.tmod 1000) = step.tmod 1000 := by rw [IntKind.wrap_i64]; omega
  have e2 : IntKind.i64.wrap (step.tmod 1000 + 1000) = step.tmod 1000 + 1000 := by rw [IntKind.wrap_i64]; omega
  have e3 : IntKind.i64.wrap ((step.tmod 1000 + 1000).tmod 1000) = (step.tmod 1000 + 1000).tmod 1000 := by rw [IntKind.wrap_i64]; omega
  have e4 : IntKind.i64.wrap (1 + (step.tmod 1000 + 1000).tmod 1000) = (st : Int) := by rw [hst', IntKind.wrap_i64]; omega
  have e5 : IntKind.i64.wrap (n.tmod 400) = n.tmod 400 := by rw [IntKind.wrap_i64]; omega
  have e6 : IntKind.i64.wrap (n.tmod 400 + 400) = n.tmod 400 + 400 := by rw [IntKind.wrap_i64]; omega
  have e7 : IntKind.i64.wrap ((n.tmod 400 + 400).tmod 400) = (n.tmod 400 + 400).tmod 400 := by rw [IntKind.wrap_i64]; omega
  have e8 : IntKind.i64.wrap (1 + (n.tmod 400 + 400).tmod 400) = (m : Int) := by rw [hm', IntKind.wrap_i64]; omega
  have E := Lib.hid (And.intro e1 (And.intro e2 (And.intro e3 (And.intro e4 (And.intro e5 (And.intro e6 (And.intro e7 e8)))))))
  clear e1 e2 e3 e4 e5 e6 e7 e8 r1 r2 q1 q2 hst' hm'
  have HTB := Lib.hid (fun w (hb : Below W.heap.size W w) => table_any v l w (O3At.below h.1 hb))
  have hs1 := tab3_small l (fun z hz => (h.2 z hz).2.2)
  have hs2 := long_small (n := m) (st := st) (b := 1073741824) hm1.1 hm1.2 hst1.1 (by have := Nat.mul_le_mul_left 400 hst1.2; omega)
  have hl := fun w => long_any m st w hm1.2 hst1.2
  have hsm : longT m st = [(lab5 0, longS m st)] := rfl
  obtain ⟨R, hR⟩ : ∃ R, R = tab3 l := ⟨_, rfl⟩
  obtain ⟨R2, hR2⟩ : ∃ R2, R2 = longT m st := ⟨_, rfl⟩
  rw [← hR] at hs1 HTB
  rw [← hR2] at hs2 hl hsm
  have HL := Lib.hid hl
  have HS1 := Lib.hid hs1
  have HS2 := Lib.hid hs2
  have HSM := Lib.hid hsm
  have HSL := Lib.hid (longS_len m st)
  obtain ⟨L2, hL2⟩ : ∃ L2, L2 = longS m st := ⟨_, rfl⟩
  rw [← hL2] at HSM HSL
  obtain ⟨I, hI⟩ : ∃ I, I = Idt.mk 2 2 := ⟨_, rfl⟩
  rw [← hI] at hm
  have hbu1 := fun tv T w hW hT he => built 2 2 1000 3 tv T R w hW hT he hs1 (by decide) (by decide) (by decide) (by decide) (by decide) (by decide)
  have hta1 := fun F fc S sc w hW hF => tabled 2 2 1000 3 R F fc S sc w hW hF hs1 (by decide) (by decide) (by decide) (by decide) (by decide) (by decide)
  have hbu2 := fun tv T w hW hT he => built 2 2 1073741824 1 tv T R2 w hW hT he hs2 (by decide) (by decide) (by decide) (by decide) (by decide) (by decide)
  have hta2 := fun F fc S sc w hW hF => tabled 2 2 1073741824 1 R2 F fc S sc w hW hF hs2 (by decide) (by decide) (by decide) (by decide) (by decide) (by decide)
  rw [← hI] at hbu1 hta1 hbu2 hta2
  unfold RetF bMt at hbu1 hbu2
  dsimp only at hbu1 hbu2
  unfold bMt at hta1 hta2
  dsimp only at hta1 hta2
  obtain ⟨C1, hC1⟩ : ∃ C, C = bCh R := ⟨_, rfl⟩
  obtain ⟨X1, hX1⟩ : ∃ X, X = idxB (bEn R 0) := ⟨_, rfl⟩
  obtain ⟨C2, hC2⟩ : ∃ C, C = bCh R2 := ⟨_, rfl⟩
  obtain ⟨X2, hX2⟩ : ∃ X, X = idxB (bEn R2 0) := ⟨_, rfl⟩
  rw [← hC1, ← hX1] at hbu1 hta1
  rw [← hC2, ← hX2] at hbu2 hta2
  have BU1 := Lib.hid hbu1
  have TA1 := Lib.hid hta1
  have BU2 := Lib.hid hbu2
  have TA2 := Lib.hid hta2
  have HW := Lib.hid hW
  have HAW := Lib.hid (fun w (hb : Below W.heap.size W w) => awake16_any w (hW.below hb))
  clear h hs1 hs2 hl hsm hR hR2 hL2 hI hbu1 hta1 hbu2 hta2 hC1 hX1 hC2 hX2 hW hm1 hst1
  go_enter Tryz.func6, Tryz.ntmps6
  go_wp2_with fail
  refine (hm _).mono ?_
  rintro e w1 ⟨rfl, b1⟩
  have HT := Lib.hid (HTB.out _ b1)
  have B1 := Lib.hid b1
  clear b1 hm HTB
  go_wp2_with fail
  refine HT.out.mono ?_
  rintro e w2 ⟨v1, u1, t1, s1, rfl, d1, x1, m1, n1⟩
  have B2 := Lib.hid (below_trans B1.out d1.n.below)
  have U2 := Lib.hid (x1.rtb (Below.refl _ _)).tb
  have N1 := Lib.hid n1
  have hbu := BU1.out v1 t1 w2 (HW.out.below B2.out) (d1.rtb (Below.refl _ _)).tb m1
  have HBU := Lib.hid hbu
  clear d1 x1 m1 n1 HT B1 hbu BU1
  go_wp2_with fail
  refine HBU.out.mono ?_
  rintro e w3 ⟨F, fc, S, sc, rfl, hf, hb⟩
  have F3 := Lib.hid hf
  have B3 := Lib.hid (below_trans B2.out hb)
  have U3 := Lib.hid (U2.out.below hb)
  clear hf hb HBU B2 U2
  go_upto_region 4 with fail
  obtain ⟨w4, hwz⟩ : ∃ wz, wz = w3.alloc (.cells #[.string (bs I), .int .i64 0, .int .i64 1000, .int .i64 3, .int .i64 (R.length : Nat), .int .i64 (cntR R : Nat), .slice F 2 fc, .slice S 0 sc, .string (bs C1), .string (bs X1)] 64) := ⟨_, rfl⟩
  have Y4 : Hid (Blk w4 w3.heap.size 64 #[.string (bs I), .int .i64 0, .int .i64 1000, .int .i64 3, .int .i64 (R.length : Nat), .int .i64 (cntR R : Nat), .slice F 2 fc, .slice S 0 sc, .string (bs C1), .string (bs X1)]) := Lib.hid (by rw [hwz]; exact Blk.new _ _ _)
  have c4 : Below w3.heap.size w3 w4 := by rw [hwz]; exact below_al _ _
  obtain ⟨Q, hQ⟩ : ∃ Q, Q = w3.heap.size := ⟨_, rfl⟩
  rw [← hwz, ← hQ]
  rw [← hQ] at Y4
  clear hwz hQ
  have F4 := Lib.hid (F3.out.below c4)
  have B4 := Lib.hid (below_trans B3.out c4)
  have U4 := Lib.hid (U3.out.below c4)
  have HA := Lib.hid (HAW.out _ B4.out)
  clear F3 B3 U3 c4 HAW
  go_wp2_with fail
  refine HA.out.mono ?_
  rintro e w5 ⟨rfl, b5⟩
  have Y5 := Lib.hid (Y4.out.below b5)
  have B5 := Lib.hid (below_trans B4.out b5)
  have U5 := Lib.hid (U4.out.below b5)
  have hta := TA1.out F fc S sc w5 (HW.out.below B5.out) (F4.out.below b5)
  have HTA := Lib.hid hta
  clear hta TA1 F4 B4 U4 Y4 b5 HA
  obtain ⟨k0, k1, k2, k3, k4, k5, k6, k7, k8, k9⟩ := Y5.out.c10
  go_wp2_with fail
  refine HTA.out.mono ?_
  rintro e w6 ⟨v6, t6, rfl, ht6, he6⟩
  have B6 := Lib.hid (below_trans B5.out ht6.1.below)
  have U6 := Lib.hid (U5.out.below ht6.1.below)
  have HTD := Lib.hid (told_small ht6.tb he6 HS1.out)
  clear k0 k1 k2 k3 k4 k5 k6 k7 k8 k9 ht6 he6 HTA B5 U5 Y5
  go_wp2_with fail
  refine HTD.out.mono ?_
  rintro e w7 ⟨v7, t7, rfl, b7, ht7, he7⟩
  have B7 := Lib.hid (below_trans B6.out b7)
  have HSA := Lib.hid (rsame_any _ _ _ _ _ ht7 (U6.out.below b7) (he7.trans N1.out.symm))
  clear b7 ht7 he7 HTD B6 U6 N1
  go_wp2_with fail
  refine HSA.out.mono ?_
  rintro e w8 ⟨rfl, b8⟩
  have B8 := Lib.hid (below_trans B7.out b8)
  clear b8 HSA B7
  obtain ⟨e1, e2, e3, e4, e5, e6, e7, e8⟩ := E.out
  go_wp2_with fail
  refine (HL.out _).mono ?_
  rintro e w9 ⟨v9, t9, rfl, ht9, he9⟩
  have B9 := Lib.hid (below_trans B8.out ht9.1.below)
  have T9 := Lib.hid ht9.tb
  have E9 := Lib.hid he9
  have hbu := BU2.out v9 t9 w9 (HW.out.below B9.out) ht9.tb he9
  have HBU := Lib.hid hbu
  clear hbu BU2 e1 e2 e3 e4 e5 e6 e7 e8 E HL B8 ht9 he9
  go_wp2_with fail
  refine HBU.out.mono ?_
  rintro e w10 ⟨F2, fc2, S2, sc2, rfl, hf, hb⟩
  have F10 := Lib.hid hf
  have B10 := Lib.hid (below_trans B9.out hb)
  have T10 := Lib.hid (T9.out.below hb)
  clear hf hb HBU B9 T9
  go_upto_region 12 with fail
  obtain ⟨w11, hwz⟩ : ∃ wz, wz = w10.alloc (.cells #[.string (bs I), .int .i64 0, .int .i64 1073741824, .int .i64 1, .int .i64 (R2.length : Nat), .int .i64 (cntR R2 : Nat), .slice F2 2 fc2, .slice S2 0 sc2, .string (bs C2), .string (bs X2)] 64) := ⟨_, rfl⟩
  have Y11 : Hid (Blk w11 w10.heap.size 64 #[.string (bs I), .int .i64 0, .int .i64 1073741824, .int .i64 1, .int .i64 (R2.length : Nat), .int .i64 (cntR R2 : Nat), .slice F2 2 fc2, .slice S2 0 sc2, .string (bs C2), .string (bs X2)]) := Lib.hid (by rw [hwz]; exact Blk.new _ _ _)
  have c11 : Below w10.heap.size w10 w11 := by rw [hwz]; exact below_al _ _
  obtain ⟨P, hQ⟩ : ∃ Q, Q = w10.heap.size := ⟨_, rfl⟩
  rw [← hwz, ← hQ]
  rw [← hQ] at Y11
  clear hwz hQ
  have F11 := Lib.hid (F10.out.below c11)
  have B11 := Lib.hid (below_trans B10.out c11)
  have T11 := Lib.hid (T10.out.below c11)
  have hta := TA2.out F2 fc2 S2 sc2 w11 (HW.out.below B11.out) F11.out
  have HTA := Lib.hid hta
  clear F10 B10 T10 c11 hta TA2 F11
  obtain ⟨k0, k1, k2, k3, k4, k5, k6, k7, k8, k9⟩ := Y11.out.c10
  go_wp2_with fail
  refine HTA.out.mono ?_
  rintro e w12 ⟨v12, t12, rfl, ht12, he12⟩
  have B12 := Lib.hid (below_trans B11.out ht12.1.below)
  have T12 := Lib.hid (T11.out.below ht12.1.below)
  have H12 := Lib.hid ht12.tb
  have E12 := Lib.hid he12
  have Y12 := Lib.hid (Y11.out.below ht12.1.below)
  obtain ⟨vA, vc, rfl, _⟩ := ht12.1.buf.shape
  obtain ⟨tA, tc, rfl, _⟩ := T12.out.shape
  clear k0 k1 k2 k3 k4 k5 k6 k7 k8 k9 ht12 he12 HTA B11 T11 Y11
  obtain ⟨⟨xl, xs, xa, xc, xsa, xsc⟩, rfl⟩ : ∃ x, t9 = [x] := by
    have h1 := E9.out
    rw [HSM.out] at h1
    match t9, congrArg List.length h1 with
    | [x], _ => exact ⟨x, rfl⟩
  have hxm : xs.length = m := by
    have h1 := E9.out
    rw [HSM.out] at h1
    have h2 : (xl, xs) = (lab5 0, L2) := by injection h1
    rw [(Prod.mk.inj h2).2]; exact HSL.out
  have hcn : cntR R2 = m := by rw [HSM.out]; show cntR ([] ++ [(lab5 0, L2)]) = _; rw [cntR_snoc]; show 0 + L2.length = _; rw [HSL.out, Nat.zero_add]
  have hrl : R2.length = 1 := by rw [HSM.out]; rfl
  obtain ⟨tb, to_, rfl, _, f1, _⟩ := T12.out.at_ (i := 0) rfl
  dsimp only at f1
  have htb : tb < w12.heap.size := World.block_lt_of_cell? _ _ f1
  rw [hxm] at f1
  rw [hcn, hrl] at Y12
  have F1 := Lib.hid f1
  clear hxm hcn hrl f1
  have T13 : Hid (TbAt w12 (.slice (some ⟨tb, to_, none⟩) 1 tc) [⟨xl, xs, xa, xc, xsa, xsc⟩]) := Lib.hid T12.out
  rw [List.length_singleton]
  go_upto_region 15 with fail
  refine wp_region_facts [(4, ((fun v => ∃ A m c, v = .slice A m c), (fun v w' => ∃ t', TbAt w' v t' ∧ t'.map plR = R2))), (6, ((fun v => ∃ A m c, v = .slice A m c), (fun v w' => ∃ t', TbAt w' v t' ∧ t'.map plR = R2))), (7, (isV (.bool true), noFact)), (12, (isV (.int .i64 (m : Nat)), noFact)), (16, (isV (.slice xsa m xsc), noFact)), (23, (isV (.int .i64 ((1 : Nat) : Int)), noFact))] (by kernel_rfl) 106 (by kernel_rfl) rfl ?_ ?_ ?_
  · apply lookup_ne
    simp only [List.forall_mem_cons, List.not_mem_nil, false_imp_iff, implies_true, and_true]
    exact ⟨⟨_, none, 0, 0, rfl⟩, ⟨_, none, 0, 0, rfl⟩, ⟨_, rfl⟩, ⟨_, rfl⟩, ⟨_, rfl⟩, ⟨_, rfl⟩⟩
  · apply lookup_st
    simp only [List.forall_mem_cons, List.not_mem_nil, false_imp_iff, implies_true, and_true]
    refine ⟨?_, ?_, ?_, ?_, ?_, ?_⟩
    · exact fun _ _ _ hb h => by obtain ⟨t', h1, h2⟩ := h; exact ⟨t', h1.below hb, h2⟩
    · exact fun _ _ _ hb h => by obtain ⟨t', h1, h2⟩ := h; exact ⟨t', h1.below hb, h2⟩
    · exact fun _ _ _ _ _ => trivial
    · exact fun _ _ _ _ _ => trivial
    · exact fun _ _ _ _ _ => trivial
    · exact fun _ _ _ _ _ => trivial
  repeat (first
    | (refine Chain.step (v := ?_) (a' := ?_) rfl rfl rfl ?_ ?_ ?_
       rotate_left 2
       focus (intro w; go_simp; try with_reducible rfl)
       focus (simp only [Act.put, List.setIfInBounds_toArray, List.set_cons_succ, List.set_cons_zero]; try rfl))
    | (refine Chain.skip (a' := ?_) rfl rfl rfl ?_ ?_
       rotate_left 1
       focus (simp only [Act.put, List.setIfInBounds_toArray, List.set_cons_succ, List.set_cons_zero]; try rfl)))
  refine Chain.make _ _ rfl rfl rfl (fun wx hw hF => ?_) (fun v4 hv4 a' ha => ?_)
  focus
    go_simp
    with_reducible refine (told_small (H12.out.below hw) E12.out HS2.out).mono ?_
    rintro e w' ⟨v, t2, rfl, hb, ho, hmm⟩
    obtain ⟨A, c, rfl, _⟩ := ho.shape
    exact ⟨hb, ⟨_, _, _, rfl⟩, t2, ho, hmm⟩
  obtain ⟨A4, m4, c4, rfl⟩ := hv4
  simp only [Act.put, List.setIfInBounds_toArray, List.set_cons_succ, List.set_cons_zero] at ha
  subst ha
  repeat (first
    | (refine Chain.step (v := ?_) (a' := ?_) rfl rfl rfl ?_ ?_ ?_
       rotate_left 2
       focus (intro w; go_simp; try with_reducible rfl)
       focus (simp only [Act.put, List.setIfInBounds_toArray, List.set_cons_succ, List.set_cons_zero]; try rfl))
    | (refine Chain.skip (a' := ?_) rfl rfl rfl ?_ ?_
       rotate_left 1
       focus (simp only [Act.put, List.setIfInBounds_toArray, List.set_cons_succ, List.set_cons_zero]; try rfl)))
  refine Chain.make _ _ rfl rfl rfl (fun wx hw hF => ?_) (fun v6 hv6 a' ha => ?_)
  focus
    go_simp
    with_reducible refine (told_small (T13.out.below hw) E9.out HS2.out).mono ?_
    rintro e w' ⟨v, t2, rfl, hb, ho, hmm⟩
    obtain ⟨A, c, rfl, _⟩ := ho.shape
    exact ⟨hb, ⟨_, _, _, rfl⟩, t2, ho, hmm⟩
  obtain ⟨A6, m6, c6, rfl⟩ := hv6
  simp only [Act.put, List.setIfInBounds_toArray, List.set_cons_succ, List.set_cons_zero] at ha
  subst ha
  repeat (first
    | (refine Chain.step (v := ?_) (a' := ?_) rfl rfl rfl ?_ ?_ ?_
       rotate_left 2
       focus (intro w; go_simp; try with_reducible rfl)
       focus (simp only [Act.put, List.setIfInBounds_toArray, List.set_cons_succ, List.set_cons_zero]; try rfl))
    | (refine Chain.skip (a' := ?_) rfl rfl rfl ?_ ?_
       rotate_left 1
       focus (simp only [Act.put, List.setIfInBounds_toArray, List.set_cons_succ, List.set_cons_zero]; try rfl)))
  refine Chain.call' (a' := ?_) _ rfl rfl rfl rfl (fun wx hw hF => ?_) ?_ ?_
  rotate_left 1
  focus
    have f4 : ∃ t', TbAt wx (.slice A4 m4 c4) t' ∧ t'.map plR = R2 := hF 4 (by kernel_rfl)
    have f6 : ∃ t', TbAt wx (.slice A6 m6 c6) t' ∧ t'.map plR = R2 := hF 6 (by kernel_rfl)
    obtain ⟨t', g1, g2⟩ := f4
    obtain ⟨t'', g3, g4⟩ := f6
    go_simp
    with_reducible refine (rsame_any _ _ t' t'' wx g1 g3 (g2.trans g4.symm)).mono ?_
    exact (fun e w' ⟨h1, h2⟩ => by subst h1; exact ⟨rfl, h2⟩)
  focus (simp only [Act.put, List.setIfInBounds_toArray, List.set_cons_succ, List.set_cons_zero]; try rfl)
  repeat (first
    | (refine Chain.step (v := ?_) (a' := ?_) rfl rfl rfl ?_ ?_ ?_
       rotate_left 2
       focus (intro w; go_simp; try with_reducible rfl)
       focus (simp only [Act.put, List.setIfInBounds_toArray, List.set_cons_succ, List.set_cons_zero]; try rfl))
    | (refine Chain.skip (a' := ?_) rfl rfl rfl ?_ ?_
       rotate_left 1
       focus (simp only [Act.put, List.setIfInBounds_toArray, List.set_cons_succ, List.set_cons_zero]; try rfl)))
  refine Chain.call' (a' := ?_) _ rfl rfl rfl rfl (fun wx hw hF => ?_) ?_ ?_
  rotate_left 1
  focus
    obtain ⟨g0, g1, g2, g3, g4, g5, g6, g7, g8, g9⟩ := Blk.c10 (Y12.out.below hw); go_simp; first | exact ⟨rfl, Below.refl _ _⟩ | exact Below.refl _ _
  focus (simp only [Act.put, List.setIfInBounds_toArray, List.set_cons_succ, List.set_cons_zero]; try rfl)
  repeat (first
    | (refine Chain.step (v := ?_) (a' := ?_) rfl rfl rfl ?_ ?_ ?_
       rotate_left 2
       focus (intro w; go_simp; try with_reducible rfl)
       focus (simp only [Act.put, List.setIfInBounds_toArray, List.set_cons_succ, List.set_cons_zero]; try rfl))
    | (refine Chain.skip (a' := ?_) rfl rfl rfl ?_ ?_
       rotate_left 1
       focus (simp only [Act.put, List.setIfInBounds_toArray, List.set_cons_succ, List.set_cons_zero]; try rfl)))
  refine Chain.call' (a' := ?_) _ rfl rfl rfl rfl (fun wx hw hF => ?_) ?_ ?_
  rotate_left 1
  focus
    have g0 := (Below.cell hw (p := ⟨tb, to_ + 0 * 2 + 1, none⟩) htb).trans F1.out
    simp only [Nat.zero_mul, Nat.add_zero] at g0
    go_simp
    first | exact ⟨rfl, Below.refl _ _⟩ | exact Below.refl _ _
  focus (simp only [Act.put, List.setIfInBounds_toArray, List.set_cons_succ, List.set_cons_zero]; try rfl)
  repeat (first
    | (refine Chain.step (v := ?_) (a' := ?_) rfl rfl rfl ?_ ?_ ?_
       rotate_left 2
       focus (intro w; go_simp; try with_reducible rfl)
       focus (simp only [Act.put, List.setIfInBounds_toArray, List.set_cons_succ, List.set_cons_zero]; try rfl))
    | (refine Chain.skip (a' := ?_) rfl rfl rfl ?_ ?_
       rotate_left 1
       focus (simp only [Act.put, List.setIfInBounds_toArray, List.set_cons_succ, List.set_cons_zero]; try rfl)))
  refine Chain.call' (a' := ?_) _ rfl rfl rfl rfl (fun wx hw hF => ?_) ?_ ?_
  rotate_left 1
  focus
    obtain ⟨g0, g1, g2, g3, g4, g5, g6, g7, g8, g9⟩ := Blk.c10 (Y12.out.below hw); go_simp; first | exact ⟨rfl, Below.refl _ _⟩ | exact Below.refl _ _
  focus (simp only [Act.put, List.setIfInBounds_toArray, List.set_cons_succ, List.set_cons_zero]; try rfl)
  repeat (first
    | (refine Chain.step (v := ?_) (a' := ?_) rfl rfl rfl ?_ ?_ ?_
       rotate_left 2
       focus (intro w; go_simp; try with_reducible rfl)
       focus (simp only [Act.put, List.setIfInBounds_toArray, List.set_cons_succ, List.set_cons_zero]; try rfl))
    | (refine Chain.skip (a' := ?_) rfl rfl rfl ?_ ?_
       rotate_left 1
       focus (simp only [Act.put, List.setIfInBounds_toArray, List.set_cons_succ, List.set_cons_zero]; try rfl)))
  refine Chain.end_ (fun wy hwy _ => ?_)
  have BY := Lib.hid (below_trans B12.out hwy)
  go_wp2_with fail
  go_ret
  exact ⟨rfl, BY.out⟩
set_option maxHeartbeats 8000000 in
set_option maxRecDepth 100000 in
theorem blockBack_lifted (os : Os) (started : os.Started) (H : Type) (enc : TypeId × Value → H) :
    ReturnsInHanded {} Tryz.checked os 6 .any (fun w args => (Rows.blockBackSpec.pre enc Tryz.prog Tryz.f6 [] false w args ∧ laidMetH Tryz.prog [("barograph/xor.widths", Rows.laid_barograph_xor_widths), ("unicode/utf8.acceptRanges", Rows.laid_unicode_utf8_acceptRanges), ("unicode/utf8.first", Rows.laid_unicode_utf8_first)] w) ∧ sizedMet enc Tryz.prog Tryz.f6 (OpenSpec.ofChange Rows.blockBackSpec) false w args)
      (Rows.blockBackSpec.post enc Tryz.prog Tryz.f6 false true false false) := by
  refine returnsInHanded_of_change_and (C := Tryz.checked) (X := fun w _ => laidMetH Tryz.prog [("barograph/xor.widths", Rows.laid_barograph_xor_widths), ("unicode/utf8.acceptRanges", Rows.laid_unicode_utf8_acceptRanges), ("unicode/utf8.first", Rows.laid_unicode_utf8_first)] w) (fun _ _ _ hh h => h.of_heap hh) law_own started (by kernel_rfl) Tryz.func6
    (ChangeSpec.witness_shaped (enc := enc) (C := Tryz.checked) (os := os) (X := fun w _ => laidMetH Tryz.prog [("barograph/xor.widths", Rows.laid_barograph_xor_widths), ("unicode/utf8.acceptRanges", Rows.laid_unicode_utf8_acceptRanges), ("unicode/utf8.first", Rows.laid_unicode_utf8_first)] w) false (World.laidAll Tryz.prog os [("barograph/xor.widths", Rows.laid_barograph_xor_widths), ("unicode/utf8.acceptRanges", Rows.laid_unicode_utf8_acceptRanges), ("unicode/utf8.first", Rows.laid_unicode_utf8_first)]) #[.slice none 0 0, .int .i64 0, .int .i64 0] 8 (World.laidAll_os _ _ _)
      (World.shaped_of_ZipB (by kernel_rfl) (by kernel_rfl)) (by kernel_rfl) (by kernel_rfl) (by kernel_rfl) (door_met os _)) ?_
  intro W base args ds gs before hval0 hW _ _ hL _
  have hval : ∀ (j : Nat) t v, Tryz.f6.params[j]? = some t → args[j]? = some v → Value.okWide Tryz.prog W .any base t v := hval0
  have hW' := hW
  obtain ⟨p, q, hA0, hV, rfl, _, _⟩ := hW
  have hA : DataW.TrodAll enc Tryz.prog W 0 (fun _ => true) true Tryz.f6.params.toList args.toList ds p := hA0
  rw [Tryz.params6] at hA hval
  obtain ⟨v0, vs0, d0, ds0, p0, q0, hargs, rfl, rfl, h0, r0⟩ := trodAll_cons hA
  obtain ⟨v1, vs1, d1, ds1, p1, q1, rfl, rfl, rfl, h1, r1⟩ := trodAll_cons r0
  obtain ⟨v2, vs2, d2, ds2, p2, q2, rfl, rfl, rfl, h2, r2⟩ := trodAll_cons r1
  obtain ⟨rfl, rfl, rfl⟩ := trodAll_nil r2
  obtain rfl : args = #[v0, v1, v2] := by cases args; simp_all
  obtain ⟨rfl, rfl⟩ := trodVars_none hV
  obtain ⟨a1, rfl, rfl, rfl, w1⟩ := open_int Tryz.underlying3 (hval 1 3 v1 rfl rfl) h1
  obtain ⟨a2, rfl, rfl, rfl, w2⟩ := open_int Tryz.underlying2 (hval 2 2 v2 rfl rfl) h2
  obtain ⟨ts0, hts0⟩ := open_arg14 (hval 0 54 v0 rfl rfl) h0
  refine (blockBack_walk0 v0 ts0 a1 w1 a2 w2 W hts0 (of_laid hL)).mono fun e W' ⟨he, hb⟩ => ?_
  subst he
  exact ⟨_, rfl, law_post law_laid (by intro t ht; rw [Tryz.params6] at ht; simp only [List.mem_cons, List.not_mem_nil, or_false] at ht; rcases ht with rfl | rfl | rfl <;> exact ⟨by kernel_rfl, of_decide_eq_true (by kernel_rfl)⟩) rfl Tryz.underlying4 rfl rfl hW' hb⟩

theorem blockBack_holds : Rows.BlockBackSaid :=
  OpenClaim.holds_of_wide 6 Tryz.f6 rfl rfl rfl rfl rfl rfl rfl ⟨rfl, rfl, rfl, rfl, rfl⟩ rfl rfl rfl rfl rfl (by kernel_rfl) Tryz.func6 (by kernel_rfl)
    (of_decide_eq_true (by kernel_rfl)) (by unfold Func.isWrapper; first | (rw [if_pos (by decide +kernel)]; kernel_rfl) | (rw [if_neg (by decide +kernel)]; exact ⟨rfl, rfl⟩))
    (fun os started H enc _ => blockBack_lifted os started H enc)

theorem blockBack_card : Rows.BlockBackCardSaid :=
  Claim7.holds_tied_plain_at .later [] [.data, .data, .pinned] true (true, "10e313c21d0b0161e13f8cfea311ebe3f966d34302896ab44c490f8946b68ccf") false
    blockBack_holds (fun _ h => by cases h) (by kernel_rfl) (fun _ h => by cases h) blockBack_row_tie rfl ⟨rfl, rfl⟩ (by kernel_rfl) rfl
    (fun f fn hf hfn => by
      obtain rfl : f = 6 := Option.some.inj ((show Tryz.prog.funcNamed "barograph/barographlaw16.BlockBack" = some 6 by kernel_rfl).symm.trans hf) |>.symm
      obtain rfl : fn = Tryz.f6 := (Option.some.inj (Tryz.func6.symm.trans hfn)).symm
      exact ⟨by kernel_rfl, fun j t ht => by
        rw [Tryz.params6] at ht
        rcases j with _ | j
        · obtain rfl : t = 54 := by simpa using ht.symm
          exact (show Tryz.prog.wantsStandIn 54 = false by kernel_rfl)
        rcases j with _ | j
        · obtain rfl : t = 3 := by simpa using ht.symm
          exact (show Tryz.prog.wantsStandIn 3 = false by kernel_rfl)
        rcases j with _ | j
        · obtain rfl : t = 2 := by simpa using ht.symm
          exact (show Tryz.prog.wantsStandIn 2 = false by kernel_rfl)
        simp at ht⟩)
    (by kernel_rfl)

end Go.Proofs.YtgabmfibfikdbaaGreatDoor
