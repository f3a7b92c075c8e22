/-
  An index says of each row where its chunks are (block.Entries, block.Chunks): these bytes alone are its samples. No condition.
-/
import Derived.Test.YtgabmfibfikdbaaGreatDoorZBokJ
import Derived.Test.YtgabmfibfikdbaaGreatDoorTie
import Derived.Test.YtgabmfibfikdbaaGreatDoorCards

namespace Go.Proofs.YtgabmfibfikdbaaGreatDoor
open Go.RowKit Go.Bar Go.Bar.Leb Go.Bar.Frm Go.Bar.Lab Go.Bar.Xor Go.Bar.Mrg Go.Bar.Met Go.Bar.Bok Go.ChangeShapes Go.WideShapes Go.ChangeAt

set_option maxHeartbeats 16000000 in
set_option maxRecDepth 10000 in
theorem blockEntries_walk0 (v : Value) (l : List On3) (W : World) (h : O3Arg W v l) (hW : WidthsAt W) :
    Calls Tryz.prog 8 #[v] W (RetBelow W (.bool true)) := by
  have hm : ∀ w, Calls Tryz.prog 30 #[.int .i64 2, .int .i64 2] w (RetBelow w (.tuple #[.string (bs (Idt.mk 2 2)), .int .i64 0])) := fun w => make_ok 2 2 w ⟨by decide, by decide⟩ ⟨by decide, by decide⟩
  have HTB := Lib.hid (fun w (hb : Below W.heap.size W w) => table_any v l w (O3At.below h.1 hb))
  have hs1 := tab3_small l (fun z hz => (h.2 z hz).2.2)
  obtain ⟨R, hR⟩ : ∃ R, R = tab3 l := ⟨_, rfl⟩
  rw [← hR] at hs1 HTB
  have HS1 := Lib.hid hs1
  obtain ⟨I, hI⟩ : ∃ I, I = Idt.mk 2 2 := ⟨_, rfl⟩
  rw [← hI] at hm
  have hbu1 := fun tv T w hW hT he => built 2 2 1000 3 tv T R w hW hT he hs1 (by decide) (by decide) (by decide) (by decide) (by decide) (by decide)
  have hen := fun w => entried 1000 R w hs1 (by decide)
  rw [← hI] at hbu1
  unfold RetF bMt at hbu1
  dsimp only at hbu1
  have hcl := hs1.ch (Int.le_refl _) (by decide)
  obtain ⟨C1, hC1⟩ : ∃ C, C = bCh R := ⟨_, rfl⟩
  obtain ⟨X1, hX1⟩ : ∃ X, X = idxB (bEn R 0) := ⟨_, rfl⟩
  rw [← hC1, ← hX1] at hbu1
  rw [← hC1] at hcl
  rw [← hX1] at hen
  have BU1 := Lib.hid hbu1
  have HEN := Lib.hid hen
  have HC1 := Lib.hid hC1
  have HW := Lib.hid hW
  have HAW := Lib.hid (fun w (hb : Below W.heap.size W w) => awake16_any w (hW.below hb))
  clear h hs1 hR hI hbu1 hen hC1 hX1 hW
  go_enter Tryz.func8, Tryz.ntmps8
  go_wp2_with fail
  refine (hm _).mono ?_
  rintro e w1 ⟨rfl, b1⟩
  have HT := Lib.hid (HTB.out _ b1)
  have B1 := Lib.hid b1
  clear b1 hm HTB
  go_wp2_with fail
  refine HT.out.mono ?_
  rintro e w2 ⟨v1, u1, t1, s1, rfl, d1, x1, m1, n1⟩
  have B2 := Lib.hid (below_trans B1.out d1.n.below)
  have T2 := Lib.hid (d1.rtb (Below.refl _ _)).tb
  have M1 := Lib.hid m1
  have hbu := BU1.out v1 t1 w2 (HW.out.below B2.out) T2.out m1
  have HBU := Lib.hid hbu
  obtain ⟨tA, tc, rfl, _⟩ := T2.out.shape
  obtain ⟨TN, hTN⟩ : ∃ TN, TN = t1.length := ⟨_, rfl⟩
  have hRN : TN = R.length := by rw [hTN, ← m1, List.length_map]
  have hTN40 : TN ≤ 40 := by rw [hRN]; exact HS1.out.n
  rw [← hTN] at T2 HBU ⊢
  have HTN := Lib.hid hTN
  have HRN := Lib.hid hRN
  clear d1 x1 m1 n1 HT B1 hbu BU1 hTN hRN
  go_wp2_with fail
  refine HBU.out.mono ?_
  rintro e w3 ⟨F, fc, S, sc, rfl, hf, hb⟩
  have B3 := Lib.hid (below_trans B2.out hb)
  have T3 := Lib.hid (T2.out.below hb)
  clear hf hb HBU B2 T2
  go_upto_region 4 with fail
  obtain ⟨w4, hwz⟩ : ∃ wz, wz = w3.alloc (.cells #[.string (bs I), .int .i64 0, .int .i64 1000, .int .i64 3, .int .i64 (R.length : Nat), .int .i64 (cntR R : Nat), .slice F 2 fc, .slice S 0 sc, .string (bs C1), .string (bs X1)] 64) := ⟨_, rfl⟩
  have Y4 : Hid (Blk w4 w3.heap.size 64 #[.string (bs I), .int .i64 0, .int .i64 1000, .int .i64 3, .int .i64 (R.length : Nat), .int .i64 (cntR R : Nat), .slice F 2 fc, .slice S 0 sc, .string (bs C1), .string (bs X1)]) := Lib.hid (by rw [hwz]; exact Blk.new _ _ _)
  have c4 : Below w3.heap.size w3 w4 := by rw [hwz]; exact below_al _ _
  obtain ⟨Q, hQ⟩ : ∃ Q, Q = w3.heap.size := ⟨_, rfl⟩
  rw [← hwz, ← hQ]
  rw [← hQ] at Y4
  clear hwz hQ
  have B4 := Lib.hid (below_trans B3.out c4)
  have T4 := Lib.hid (T3.out.below c4)
  clear B3 T3 c4
  obtain ⟨k0, k1, k2, k3, k4, k5, k6, k7, k8, k9⟩ := Y4.out.c10
  go_wp2_with fail
  refine (HEN.out _).mono ?_
  rintro e w5 ⟨v5, es, rfl, hes, hpl⟩
  have B5 := Lib.hid (below_trans B4.out hes.n.below)
  have T5 := Lib.hid (T4.out.below hes.n.below)
  have Y5 := Lib.hid (Y4.out.below hes.n.below)
  have E5 := Lib.hid (hes.at_ hes.n.below)
  have HPL := Lib.hid hpl
  have HA := Lib.hid (HAW.out _ B5.out)
  obtain ⟨eA, ec, rfl, _⟩ := E5.out.shape
  have hel : es.length = TN := by
    have h1 := congrArg List.length hpl
    rw [List.length_map, bEn_len, ← HRN.out] at h1
    exact h1
  rw [hel] at E5 ⊢
  clear hel hes hpl B4 T4 Y4 k0 k1 k2 k3 k4 k5 k6 k7 k8 k9 HEN HAW
  go_wp2_with fail
  refine HA.out.mono ?_
  rintro e w6 ⟨rfl, b6⟩
  have B6 := Lib.hid (below_trans B5.out b6)
  have T6 := Lib.hid (T5.out.below b6)
  have Y6 := Lib.hid (Y5.out.below b6)
  have E6 := Lib.hid (E5.out.below b6)
  clear b6 B5 T5 Y5 E5 HA
  go_upto_region 8 with fail
  go_loopw [55] (fun iv wr => ∃ k : Nat, iv = .int .i64 k ∧ k ≤ TN ∧ Hid (Below w6.heap.size w6 wr)) (fun iv _ => TN - (intOf iv).toNat)
  case atStart => exact ⟨0, rfl, Nat.zero_le _, Lib.hid (Below.refl _ _)⟩
  case round =>
    obtain ⟨k, rfl, hk, HB⟩ := hrel
    by_cases hgo : k < TN
    · obtain ⟨⟨ls, ss, la, lc, sa, sc2⟩, hx⟩ : ∃ x, t1[k]? = some x := ⟨_, List.getElem?_eq_getElem (by rw [← HTN.out]; exact hgo)⟩
      have hrk : R[k]? = some (ls, ss) := by rw [← M1.out, List.getElem?_map, hx]; rfl
      have hek := bEn_at 0 hrk
      rw [Nat.zero_add] at hek
      obtain ⟨x, hy⟩ : ∃ x, es[k]? = some x := by
        rw [← HPL.out, List.getElem?_map] at hek
        cases hc : es[k]? with
        | none => rw [hc] at hek; cases hek
        | some x => exact ⟨x, rfl⟩
      have hye : plE x = rEn (ls, ss) (bCh (R.take k)).length := by
        rw [← HPL.out, List.getElem?_map, hy] at hek
        exact Option.some.inj hek
      obtain ⟨xl, xa, xc, fr, n, mn, mx⟩ := x
      obtain ⟨rfl, rfl, rfl, rfl, rfl⟩ : xl = ls ∧ fr = ((bCh (R.take k)).length : Nat) ∧ n = ((chB ss).length : Nat) ∧ mn = first ss ∧ mx = last ss := by
        unfold plE rEn at hye
        injection hye with e1 e2 e3 e4 e5
        exact ⟨e1, e2, e3, e4, e5⟩
      have hrm := List.mem_of_getElem? hrk
      have hne := HS1.out.ne _ hrm
      have hsl := HS1.out.len _ hrm
      have hsmp := smpsR_of (HS1.out.smok (Int.le_refl _) (by decide) _ hrm)
      obtain ⟨ct, hct⟩ := bCh_take hrk
      dsimp only at hne hsl hsmp hct
      rw [← HC1.out] at hct
      obtain ⟨P0, hP0⟩ : ∃ P, P = bCh (R.take k) := ⟨_, rfl⟩
      obtain ⟨D, hD⟩ : ∃ D, D = chB ss := ⟨_, rfl⟩
      rw [← hP0, ← hD] at hct
      rw [← hD] at hsmp
      have hcl2 : P0.length + D.length ≤ C1.length := by rw [hct, List.length_append, List.length_append]; omega
      have hbx : (bs C1).extract P0.length (P0.length + D.length) = bs D := by rw [bs_extract, hct, List.drop_left, Nat.add_sub_cancel_left, List.take_left]
      obtain ⟨eb, eo, rfl, heb, _, _, q1, q2, q3, q4⟩ := (E6.out.below HB.out).at_ hy
      obtain ⟨tb, to_, rfl, g0, g1, _⟩ := (T6.out.below HB.out).at_ hx
      have hSS := (T6.out.2 _ (List.mem_of_getElem? hx)).2
      dsimp only at q1 q2 q3 q4 g0 g1 hSS
      rw [← hP0] at q1
      rw [← hD] at q2
      obtain ⟨sn, hsn⟩ : ∃ n, ss.length = n + 1 := ⟨ss.length - 1, by
        cases hc : ss with
        | nil => exact absurd hc hne
        | cons a b => simp⟩
      obtain ⟨⟨y, yv⟩, hyf⟩ : ∃ y, ss[0]? = some y := ⟨_, List.getElem?_eq_getElem (by omega)⟩
      obtain ⟨⟨z, zv⟩, hzl⟩ : ∃ z, ss[sn]? = some z := ⟨_, List.getElem?_eq_getElem (by omega)⟩
      rw [first_at2 hyf] at q3
      rw [last_at2 hsn hzl] at q4
      dsimp only at q3 q4
      have HSN := Lib.hid hsn
      have HSS := Lib.hid (hSS.below HB.out)
      have HYF := Lib.hid hyf
      have HZL := Lib.hid hzl
      have HSMP := Lib.hid hsmp
      have hCH := fun w (hw : Below wr.heap.size wr w) => kchunks_any D w (HW.out.below (below_trans (below_trans B6.out HB.out) hw)) (by omega)
      rw [hsmp] at hCH
      have HCH := Lib.hid hCH
      obtain ⟨a0, ha0⟩ : ∃ a, a = P0.length := ⟨_, rfl⟩
      obtain ⟨nn, hnn⟩ : ∃ n, n = D.length := ⟨_, rfl⟩
      rw [← ha0, ← hnn] at hbx hcl2
      rw [← ha0] at q1
      rw [← hnn] at q2
      obtain ⟨e0, he0⟩ : ∃ e, e = a0 + nn := ⟨_, rfl⟩
      rw [← he0] at hbx hcl2
      have hw2 : IntKind.i64.wrap ((a0 : Int) + (nn : Int)) = (e0 : Int) := by rw [IntKind.wrap_i64]; omega
      have hae : a0 ≤ e0 := by omega
      clear he0
      clear hek hye hrm hne hsmp hct hP0 hD hSS hsn hyf hzl hCH hx hrk hy ha0 hnn
      obtain ⟨wb, hwb⟩ : ∃ wb, wb = wr.alloc (.cells #[.slice la xl.length lc, .slice sa ss.length sc2] 94) := ⟨_, rfl⟩
      have hb2 : Below wr.heap.size wr wb := by rw [hwb]; exact below_al _ _
      have HZ : Hid (Blk wb wr.heap.size 94 #[.slice la xl.length lc, .slice sa ss.length sc2]) := Lib.hid (by rw [hwb]; exact Blk.new _ _ _)
      go_upto_region 10 with fail
      rw [← hwb]
      obtain ⟨P, hP⟩ : ∃ P, P = wr.heap.size := ⟨_, rfl⟩
      rw [← hP] at HZ ⊢
      have heb2 : eb < wb.heap.size := Nat.lt_of_lt_of_le heb hb2.size
      rw [← Below.cell hb2 (p := ⟨eb, _, none⟩) heb] at q1 q2 q3 q4
      have QC := Lib.hid (And.intro q1 (And.intro q2 (And.intro q3 q4)))
      have Y7 := Lib.hid ((Y6.out.below HB.out).below hb2)
      have HSS7 := Lib.hid (HSS.out.below hb2)
      have B7 := Lib.hid (below_trans HB.out hb2)
      have HCH7 := Lib.hid (fun w (hw : Below wb.heap.size wb w) => HCH.out w (below_trans hb2 hw))
      clear hwb hP hb2 q1 q2 q3 q4 g0 g1 HSS HCH heb
      refine wp_region_facts [(1, (isV (.string (bs C1)), noFact)), (6, (isV (.int .i64 (a0 : Nat)), noFact)), (11, (isV (.int .i64 (a0 : Nat)), noFact)), (16, (isV (.int .i64 (nn : Nat)), noFact)), (19, ((fun v => ∃ A c, v = .tuple #[.slice A ss.length c, .int .i64 0]), (fun v w' => ∃ A c, v = .tuple #[.slice A ss.length c, .int .i64 0] ∧ SmsAt w' (.slice A ss.length c) ss)))] (by kernel_rfl) 133 (by kernel_rfl) rfl ?_ ?_ ?_
      · apply lookup_ne
        simp only [List.forall_mem_cons, List.not_mem_nil, false_imp_iff, implies_true, and_true]
        exact ⟨⟨_, rfl⟩, ⟨_, rfl⟩, ⟨_, rfl⟩, ⟨_, rfl⟩, ⟨_, none, 0, rfl⟩⟩
      · apply lookup_st
        simp only [List.forall_mem_cons, List.not_mem_nil, false_imp_iff, implies_true, and_true]
        refine ⟨?_, ?_, ?_, ?_, ?_⟩
        · exact fun _ _ _ _ _ => trivial
        · exact fun _ _ _ _ _ => trivial
        · exact fun _ _ _ _ _ => trivial
        · exact fun _ _ _ _ _ => trivial
        · exact fun _ _ _ hb h => by obtain ⟨A, c, h1, h2⟩ := h; exact ⟨A, c, h1, h2.below hb⟩
      repeat (first
        | (refine Chain.step (v := ?_) (a' := ?_) rfl rfl rfl ?_ ?_ ?_
           rotate_left 2
           focus (intro w; go_simp; try with_reducible rfl)
           focus (simp only [Act.put, List.setIfInBounds_toArray, List.set_cons_succ, List.set_cons_zero]; try rfl))
        | (refine Chain.skip (a' := ?_) rfl rfl rfl ?_ ?_
           rotate_left 1
           focus (simp only [Act.put, List.setIfInBounds_toArray, List.set_cons_succ, List.set_cons_zero]; try rfl)))
      refine Chain.call' (a' := ?_) _ rfl rfl rfl rfl (fun wx hw hF => ?_) ?_ ?_
      rotate_left 1
      focus
        obtain ⟨g0, g1, g2, g3, g4, g5, g6, g7, g8, g9⟩ := Blk.c10 (Y7.out.below hw); go_simp; first | exact ⟨rfl, Below.refl _ _⟩ | exact Below.refl _ _
      focus (simp only [Act.put, List.setIfInBounds_toArray, List.set_cons_succ, List.set_cons_zero]; try rfl)
      repeat (first
        | (refine Chain.step (v := ?_) (a' := ?_) rfl rfl rfl ?_ ?_ ?_
           rotate_left 2
           focus (intro w; go_simp; try with_reducible rfl)
           focus (simp only [Act.put, List.setIfInBounds_toArray, List.set_cons_succ, List.set_cons_zero]; try rfl))
        | (refine Chain.skip (a' := ?_) rfl rfl rfl ?_ ?_
           rotate_left 1
           focus (simp only [Act.put, List.setIfInBounds_toArray, List.set_cons_succ, List.set_cons_zero]; try rfl)))
      refine Chain.call' (a' := ?_) _ rfl rfl rfl rfl (fun wx hw hF => ?_) ?_ ?_
      rotate_left 1
      focus
        have g0 := (Below.cell hw (p := ⟨eb, _, none⟩) heb2).trans QC.out.1
        go_simp
        first | exact ⟨rfl, Below.refl _ _⟩ | exact Below.refl _ _
      focus (simp only [Act.put, List.setIfInBounds_toArray, List.set_cons_succ, List.set_cons_zero]; try rfl)
      repeat (first
        | (refine Chain.step (v := ?_) (a' := ?_) rfl rfl rfl ?_ ?_ ?_
           rotate_left 2
           focus (intro w; go_simp; try with_reducible rfl)
           focus (simp only [Act.put, List.setIfInBounds_toArray, List.set_cons_succ, List.set_cons_zero]; try rfl))
        | (refine Chain.skip (a' := ?_) rfl rfl rfl ?_ ?_
           rotate_left 1
           focus (simp only [Act.put, List.setIfInBounds_toArray, List.set_cons_succ, List.set_cons_zero]; try rfl)))
      refine Chain.call' (a' := ?_) _ rfl rfl rfl rfl (fun wx hw hF => ?_) ?_ ?_
      rotate_left 1
      focus
        have g0 := (Below.cell hw (p := ⟨eb, _, none⟩) heb2).trans QC.out.1
        go_simp
        first | exact ⟨rfl, Below.refl _ _⟩ | exact Below.refl _ _
      focus (simp only [Act.put, List.setIfInBounds_toArray, List.set_cons_succ, List.set_cons_zero]; try rfl)
      repeat (first
        | (refine Chain.step (v := ?_) (a' := ?_) rfl rfl rfl ?_ ?_ ?_
           rotate_left 2
           focus (intro w; go_simp; try with_reducible rfl)
           focus (simp only [Act.put, List.setIfInBounds_toArray, List.set_cons_succ, List.set_cons_zero]; try rfl))
        | (refine Chain.skip (a' := ?_) rfl rfl rfl ?_ ?_
           rotate_left 1
           focus (simp only [Act.put, List.setIfInBounds_toArray, List.set_cons_succ, List.set_cons_zero]; try rfl)))
      refine Chain.call' (a' := ?_) _ rfl rfl rfl rfl (fun wx hw hF => ?_) ?_ ?_
      rotate_left 1
      focus
        have g0 := (Below.cell hw (p := ⟨eb, _, none⟩) heb2).trans QC.out.2.1
        go_simp
        first | exact ⟨rfl, Below.refl _ _⟩ | exact Below.refl _ _
      focus (simp only [Act.put, List.setIfInBounds_toArray, List.set_cons_succ, List.set_cons_zero]; try rfl)
      repeat (first
        | (refine Chain.step (v := ?_) (a' := ?_) rfl rfl rfl ?_ ?_ ?_
           rotate_left 2
           focus (intro w; go_simp; try with_reducible rfl)
           focus (simp only [Act.put, List.setIfInBounds_toArray, List.set_cons_succ, List.set_cons_zero]; try rfl))
        | (refine Chain.skip (a' := ?_) rfl rfl rfl ?_ ?_
           rotate_left 1
           focus (simp only [Act.put, List.setIfInBounds_toArray, List.set_cons_succ, List.set_cons_zero]; try rfl)))
      refine Chain.make _ _ rfl rfl rfl (fun wx hw hF => ?_) (fun v19 hv19 a' ha => ?_)
      focus
        go_simp
        with_reducible refine (HCH7.out _ hw).mono ?_
        rintro e w' ⟨v, rfl, hn⟩
        obtain ⟨A, c, rfl, _⟩ := hn.buf.shape
        exact ⟨hn.below, ⟨_, _, rfl⟩, _, _, rfl, hn.slice⟩
      obtain ⟨A9, c9, rfl⟩ := hv19
      simp only [Act.put, List.setIfInBounds_toArray, List.set_cons_succ, List.set_cons_zero] at ha
      subst ha
      repeat (first
        | (refine Chain.step (v := ?_) (a' := ?_) rfl rfl rfl ?_ ?_ ?_
           rotate_left 2
           focus (intro w; go_simp; try with_reducible rfl)
           focus (simp only [Act.put, List.setIfInBounds_toArray, List.set_cons_succ, List.set_cons_zero]; try rfl))
        | (refine Chain.skip (a' := ?_) rfl rfl rfl ?_ ?_
           rotate_left 1
           focus (simp only [Act.put, List.setIfInBounds_toArray, List.set_cons_succ, List.set_cons_zero]; try rfl)))
      refine Chain.end_ (fun wy hwy hfy => ?_)
      have hf9 : ∃ A c, (Value.tuple #[.slice A9 ss.length c9, .int .i64 0]) = .tuple #[.slice A ss.length c, .int .i64 0] ∧ SmsAt wy (.slice A ss.length c) ss := hfy 19
      obtain ⟨A, c, he9, hs9⟩ := hf9
      obtain ⟨rfl, rfl⟩ : A9 = A ∧ c9 = c := by simpa using he9
      obtain ⟨gb, go, rfl, hgb, f0, f1⟩ := SmsAt.at_ hs9 HYF.out
      obtain ⟨ob, oo, rfl, hob, o0, o1⟩ := SmsAt.at_ (HSS7.out.below hwy) HYF.out
      obtain ⟨ob2, oo2, e2, _, o2, _⟩ := SmsAt.at_ (HSS7.out.below hwy) HZL.out
      injection e2 with e2
      injection e2 with e3 e4 _
      subst e3; subst e4
      have q3 := (Below.cell hwy (p := ⟨eb, _, none⟩) heb2).trans QC.out.2.2.1
      have q4 := (Below.cell hwy (p := ⟨eb, _, none⟩) heb2).trans QC.out.2.2.2
      obtain ⟨r0, r1⟩ := (HZ.out.below hwy).c2
      simp only [Nat.zero_mul, Nat.add_zero] at f0 f1 o0 o1
      have B8 := Lib.hid (below_trans B7.out hwy)
      have hqw : IntKind.i64.wrap ((ss.length : Int) - 1) = (sn : Int) := by have := HSN.out; rw [IntKind.wrap_i64]; omega
      have hqn : (sn : Int) < (ss.length : Int) := by have := HSN.out; omega
      have hqn0 : (0 : Int) ≤ (sn : Int) := by omega
      have hps0 : (0 : Int) < (ss.length : Int) := by omega
      have hps1 : 0 < ss.length := by omega
      clear hfy he9 hs9 hwy HZ QC HSS7 HCH7 Y7
      go_wp2_with fail
      go_quiet (fail)
      go_wp2_with fail
      go_roundw
      case rel => exact ⟨k + 1, by go_num, hgo, Lib.hid (below_trans B8.out (below_draws _ _))⟩
      case measure => simp [intOf]; omega
    · obtain rfl : k = TN := by omega
      go_wp2_with fail
      go_ret
      exact ⟨rfl, below_trans B6.out HB.out⟩
set_option maxHeartbeats 8000000 in
set_option maxRecDepth 100000 in
theorem blockEntries_lifted (os : Os) (started : os.Started) (H : Type) (enc : TypeId × Value → H) :
    ReturnsInHanded {} Tryz.checked os 8 .any (fun w args => (Rows.blockEntriesSpec.pre enc Tryz.prog Tryz.f8 [] false w args ∧ laidMetH Tryz.prog [("barograph/xor.widths", Rows.laid_barograph_xor_widths), ("unicode/utf8.acceptRanges", Rows.laid_unicode_utf8_acceptRanges), ("unicode/utf8.first", Rows.laid_unicode_utf8_first)] w) ∧ sizedMet enc Tryz.prog Tryz.f8 (OpenSpec.ofChange Rows.blockEntriesSpec) false w args)
      (Rows.blockEntriesSpec.post enc Tryz.prog Tryz.f8 false true false false) := by
  refine returnsInHanded_of_change_and (C := Tryz.checked) (X := fun w _ => laidMetH Tryz.prog [("barograph/xor.widths", Rows.laid_barograph_xor_widths), ("unicode/utf8.acceptRanges", Rows.laid_unicode_utf8_acceptRanges), ("unicode/utf8.first", Rows.laid_unicode_utf8_first)] w) (fun _ _ _ hh h => h.of_heap hh) law_own started (by kernel_rfl) Tryz.func8
    (ChangeSpec.witness_shaped (enc := enc) (C := Tryz.checked) (os := os) (X := fun w _ => laidMetH Tryz.prog [("barograph/xor.widths", Rows.laid_barograph_xor_widths), ("unicode/utf8.acceptRanges", Rows.laid_unicode_utf8_acceptRanges), ("unicode/utf8.first", Rows.laid_unicode_utf8_first)] w) false (World.laidAll Tryz.prog os [("barograph/xor.widths", Rows.laid_barograph_xor_widths), ("unicode/utf8.acceptRanges", Rows.laid_unicode_utf8_acceptRanges), ("unicode/utf8.first", Rows.laid_unicode_utf8_first)]) #[.slice none 0 0] 8 (World.laidAll_os _ _ _)
      (World.shaped_of_ZipB (by kernel_rfl) (by kernel_rfl)) (by kernel_rfl) (by kernel_rfl) (by kernel_rfl) (door_met os _)) ?_
  intro W base args ds gs before hval0 hW _ _ hL _
  have hval : ∀ (j : Nat) t v, Tryz.f8.params[j]? = some t → args[j]? = some v → Value.okWide Tryz.prog W .any base t v := hval0
  have hW' := hW
  obtain ⟨p, q, hA0, hV, rfl, _, _⟩ := hW
  have hA : DataW.TrodAll enc Tryz.prog W 0 (fun _ => true) true Tryz.f8.params.toList args.toList ds p := hA0
  rw [Tryz.params8] at hA hval
  obtain ⟨v0, vs0, d0, ds0, p0, q0, hargs, rfl, rfl, h0, r0⟩ := trodAll_cons hA
  obtain ⟨rfl, rfl, rfl⟩ := trodAll_nil r0
  obtain rfl : args = #[v0] := by cases args; simp_all
  obtain ⟨rfl, rfl⟩ := trodVars_none hV
  obtain ⟨ts0, hts0⟩ := open_arg14 (hval 0 54 v0 rfl rfl) h0
  refine (blockEntries_walk0 v0 ts0 W hts0 (of_laid hL)).mono fun e W' ⟨he, hb⟩ => ?_
  subst he
  exact ⟨_, rfl, law_post law_laid (by intro t ht; rw [Tryz.params8] at ht; simp only [List.mem_cons, List.not_mem_nil, or_false] at ht; rcases ht with rfl <;> exact ⟨by kernel_rfl, of_decide_eq_true (by kernel_rfl)⟩) rfl Tryz.underlying4 rfl rfl hW' hb⟩

theorem blockEntries_holds : Rows.BlockEntriesSaid :=
  OpenClaim.holds_of_wide 8 Tryz.f8 rfl rfl rfl rfl rfl rfl rfl ⟨rfl, rfl, rfl, rfl, rfl⟩ rfl rfl rfl rfl rfl (by kernel_rfl) Tryz.func8 (by kernel_rfl)
    (of_decide_eq_true (by kernel_rfl)) (by unfold Func.isWrapper; first | (rw [if_pos (by decide +kernel)]; kernel_rfl) | (rw [if_neg (by decide +kernel)]; exact ⟨rfl, rfl⟩))
    (fun os started H enc _ => blockEntries_lifted os started H enc)

theorem blockEntries_card : Rows.BlockEntriesCardSaid :=
  Claim7.holds_tied_plain_at .later [] [.data, .data, .pinned] true (true, "10e313c21d0b0161e13f8cfea311ebe3f966d34302896ab44c490f8946b68ccf") false
    blockEntries_holds (fun _ h => by cases h) (by kernel_rfl) (fun _ h => by cases h) blockEntries_row_tie rfl ⟨rfl, rfl⟩ (by kernel_rfl) rfl
    (fun f fn hf hfn => by
      obtain rfl : f = 8 := Option.some.inj ((show Tryz.prog.funcNamed "barograph/barographlaw16.BlockEntries" = some 8 by kernel_rfl).symm.trans hf) |>.symm
      obtain rfl : fn = Tryz.f8 := (Option.some.inj (Tryz.func8.symm.trans hfn)).symm
      exact ⟨by kernel_rfl, fun j t ht => by
        rw [Tryz.params8] at ht
        rcases j with _ | j
        · obtain rfl : t = 54 := by simpa using ht.symm
          exact (show Tryz.prog.wantsStandIn 54 = false by kernel_rfl)
        simp at ht⟩)
    (by kernel_rfl)

end Go.Proofs.YtgabmfibfikdbaaGreatDoor
