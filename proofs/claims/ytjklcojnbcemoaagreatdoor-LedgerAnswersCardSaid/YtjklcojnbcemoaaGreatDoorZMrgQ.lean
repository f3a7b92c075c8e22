/-
  Layer 14: the walk of merge.Tables.
-/
import Derived.Test.YtjklcojnbcemoaaGreatDoorZMrgL

namespace Go.Proofs.YtjklcojnbcemoaaGreatDoor
open Go.RowKit Go.Bar Go.Bar.Leb Go.Bar.Lab Go.Bar.Xor Go.Bar.Mrg

set_option maxHeartbeats 8000000 in
set_option maxRecDepth 10000 in
theorem tables_own (v : Value) (tv : List (List Rv)) (w : World) (h : TsAt w v tv) (hl : tv.length ≤ 1000) (hn : (evs (plT tv)).length ≤ 1000000) (hs : tot (evs (plT tv)) ≤ 10000000) (hr : ∀ t ∈ tv, Rls (t.map plR)) (hlab : ∀ t ∈ tv, ∀ x ∈ t, x.ls.length ≤ 1000000) :
    Calls Tryz.prog 9 #[v] w (RetTabO w tv) := by
  obtain ⟨A, c, rfl, hlc, hcm⟩ := h.shape
  unfold maxLen at hcm
  have HT := Lib.hid h
  have HRS := Lib.hid hr
  have HLB := Lib.hid hlab
  clear hr hlab
  go_enter Tryz.func9, Tryz.ntmps9
  go_wp2_with fail
  go_loopw [14] (fun iv wr => ∃ k : Nat, iv = .int .i64 k ∧ k ≤ tv.length ∧ In w w.heap.size tv k wr) (fun iv _ => tv.length - (intOf iv).toNat)
  case atStart => exact ⟨0, rfl, Nat.zero_le _, In.start ((Below.refl _ _).alloc (Nat.le_refl _) _) _ (Blk.new _ _ _) (Nat.le_refl _) _⟩
  case round =>
    obtain ⟨k, rfl, hk, n, f, qA, qc, hrow, hH⟩ := hrel
    have hnk : n ≤ k := by have := inits_len tv k; rw [← hrow, row_len] at this; exact this
    by_cases hgo : k < tv.length
    · obtain ⟨t, ht⟩ : ∃ t, tv[k]? = some t := ⟨_, List.getElem?_eq_getElem hgo⟩
      obtain ⟨b, o, B, d, rfl, hc, htb⟩ := (HT.out.below hH.buf.below).at_ ht
      have hci : (0 : Int) ≤ (k : Int) := by omega
      have hci2 : (k : Int) < (tv.length : Int) := by omega
      clear h
      rcases t with _ | ⟨x, t⟩
      · have hin := inits_none ht
        rw [← hrow] at hin
        have HIN := Lib.hid hin
        have HH := Lib.hid hH
        clear hin hH hrow htb ht
        go_wp2_with fail
        go_roundw
        case rel => exact ⟨k + 1, by go_num, by omega, n, f, qA, qc, HIN.out.symm, HH.out⟩
        case measure => simp [intOf]; omega
      · obtain ⟨b2, o2, rfl, c0, c1, hrat⟩ := htb.at_ (i := 0) rfl
        have hin := inits_some ht
        rw [← hrow, ← row_snocF] at hin
        have hrat0 : RAt w x := by
          obtain ⟨_, _, _, _, _, _, htb0⟩ := HT.out.at_ ht
          exact htb0.2 x (List.mem_cons_self ..)
        have hrows : QR w (n + 1) (snocF n f ⟨k, 0, x⟩) := fun j hj => by
          unfold snocF
          split
          · exact hH.rows j (by omega)
          · exact hrat0
        have HR := Lib.hid hrows
        have HIN := Lib.hid hin
        rw [Nat.zero_mul, Nat.add_zero] at c0 c1
        have HH := Lib.hid hH
        have g0 : wr.cell? ⟨w.heap.size, 0, none⟩ = some (.slice qA n qc) := hH.var.c1
        have g0' : ∀ o, (wr.alloc o).cell? ⟨w.heap.size, 0, none⟩ = some (.slice qA n qc) := fun o => (hH.var.alloc o).c1
        clear hrows hin htb hrat hrat0 hH hrow ht
        go_upto_region 6 with fail
        go_region_law (refine step_append_buf rfl (.tmp 22) (.tmp 28) 72 rfl cur_ty rfl (HH.out.buf.buf.alloc _).drew rfl ((Buf.lit wr 74 4 1 [.int .i64 (k : Nat), .int .i64 0, .slice x.la x.ls.length x.lc, .slice x.sa x.ss.length x.sc] rfl (by decide)).drew.src Tryz.underlying72 (by simp [Value.oneCell'])) (by simp only [maxLen]; omega) (by omega) ?_; intro v2 w2 hb2 ha2 hg2; obtain ⟨A2, c2, rfl, hc2⟩ := hb2.shape; have Y2 := (HH.out.var.alloc (.cells #[.int .i64 (k : Nat), .int .i64 0, .slice x.la x.ls.length x.lc, .slice x.sa x.ss.length x.sc] 74)).drew.ap (HH.out.buf.buf.alloc _).drew ha2 (by decide); have HB2 := Lib.hid (And.intro hb2 (And.intro ha2 (And.intro hg2 Y2))); clear hb2 ha2 hg2; have d0 := Y2.c1; have d1 := Y2.free 0; clear Y2)
        all_goals
          obtain ⟨r1, r2⟩ := push_fin (q := ⟨k, 0, x⟩) HH.out (((Below.refl _ _).alloc (Nat.le_refl _) _).drew) HB2.out.1 HB2.out.2.1 HB2.out.2.2.1 HR.out
          have HF := Lib.hid r1
          clear r1 r2 d0 d1 g0 g0' c0 c1
          go_wp2_with fail
          go_roundw
          case rel => exact ⟨k + 1, by go_num, by omega, n + 1, _, A2, c2, HIN.out.symm, HF.out⟩
          case measure => simp [intOf]; omega
    · obtain rfl : k = tv.length := by omega
      have hng : ¬ (tv.length : Int) < (tv.length : Int) := by omega
      have hin := init_any w.heap.size n qc f qA w wr hH (by omega)
      have HINIT := Lib.hid hin
      have HROW := Lib.hid hrow
      clear hin hH h hrow
      go_wp2_with fail
      refine HINIT.out.mono ?_
      rintro e w1 ⟨rfl, g, hpg, hhp, hH, _⟩
      have HML := Lib.hid (Ml.start HROW.out hpg hhp hH)
      clear HINIT HROW hH hpg hhp
      go_wp2_with fail
      have hO : w1.heap.size + 1 = w1.heap.size + 1 := rfl
      obtain ⟨O, hO⟩ : ∃ O, O = w1.heap.size := ⟨_, rfl⟩
      rw [← hO] at HML ⊢
      obtain ⟨w2, hw2⟩ : ∃ w2, w2 = (w1.alloc (.cells #[.slice none 0 0] 23)).alloc (.cells #[.slice none 0 0] 77) := ⟨_, rfl⟩
      rw [← hw2] at HML ⊢
      clear hw2 hO
      go_loopw [] (fun wr => ∃ k, Ml w w.heap.size O (O + 1) tv wr k) (fun wr => least (Ml w w.heap.size O (O + 1) tv wr))
      case atStart => exact ⟨_, HML.out⟩
      case round =>
        obtain ⟨n, f, A', c', S, l, ps, hH, hhp, hti, hk, hou, hpa, hund⟩ := least_at hrel
        have g0 := hH.var.c1
        have HO := Lib.hid hou
        have HP := Lib.hid hpa
        have HU := Lib.hid hund
        have HTI := Lib.hid hti
        have HH := Lib.hid hH
        have HK := Lib.hid hk
        clear hrel hti hk hou hpa hund hH
        rcases n with _ | n
        · have hl0 := HU.out.len
          have hll := HTI.out.len
          have hfl := flush_any w wr O (O + 1) l ps (grpOf S) HO.out HP.out HU.out (by omega) (by omega) (by omega)
          have HFL := Lib.hid hfl
          clear hfl hl0 hll
          go_wp2_with fail
          refine HFL.out.mono ?_
          rintro e w4 ⟨rfl, l1, ho, hp, hke, hpl, -⟩
          obtain ⟨A4, c4, b1, b2, b3⟩ := ho.tb
          have g4 := b1.c1
          have htb := FinTab.of HTI.out HRS.out hpl
          have HTB := Lib.hid (And.intro (And.intro b2 ho.deep) htb)
          clear ho hp hke hpl htb b1 b2 b3 g0
          go_wp2_with fail
          go_ret
          exact ⟨_, l1, rfl, HTB.out⟩
        · have hll := HTI.out.len
          have hcn := HTI.out.cnt
          rw [row_len] at hcn
          have hul := HU.out.len
          have hn6 : n < 1000000 := by omega
          have hpop := heapPop_any w.heap.size n c' f A' w wr HH.out hhp (by omega)
          have HPOP := Lib.hid hpop
          have hta := assert_cur
          clear hpop
          have hn0 : (0 : Int) < (n : Int) + 1 := by omega
          go_upto_region 13 with fail
          go_wp2_with fail
          refine HPOP.out.mono ?_
          rintro e w3 ⟨rfl, g, hg, hperm, hH3, hK3⟩
          go_upto_region 14 with fail
          have hle := pop_least hperm hhp
          obtain ⟨q, hq⟩ : ∃ q, q = f 0 := ⟨_, rfl⟩
          rw [← hq] at hperm hle ⊢
          obtain ⟨wb, hwb⟩ : ∃ wb, wb = w3.alloc (.cells #[.int .i64 q.tb, .int .i64 q.ix, .slice q.x.la q.x.ls.length q.x.lc, .slice q.x.sa q.x.ss.length q.x.sc] 74) := ⟨_, rfl⟩
          have hC : Blk wb w3.heap.size 74 #[.int .i64 q.tb, .int .i64 q.ix, .slice q.x.la q.x.ls.length q.x.lc, .slice q.x.sa q.x.ss.length q.x.sc] := by rw [hwb]; exact Blk.new _ _ _
          have hb3 : Below w3.heap.size w3 wb := by rw [hwb]; exact (Below.refl _ _).alloc (Nat.le_refl _) _
          have hH4 := hH3.below hb3
          have hke : Ke Tq wr wb := hK3.ke.trans (Ke.of_below hb3)
          have hO4 := HO.out.ke hke hH4.buf.below (by decide) (by decide) (by decide) (by decide)
          have hP4 := HP.out.ke hke hH4.buf.below (by decide) (by decide)
          have hti := HTI.out.of_perm hperm.symm
          have hqx : RAt w q.x := by rw [hq]; exact HH.out.rows 0 (by omega)
          have hne : ∀ a, A' = some a → a.block ≠ w3.heap.size := fun a he => by
            have := HH.out.buf.buf.lt (by omega) a.block (by rw [he]; rfl)
            have := hK3.size
            omega
          have hCW : w.heap.size ≤ w3.heap.size := hH3.buf.below.size
          obtain ⟨t, htv, hqt⟩ : ∃ t, tv[q.tb]? = some t ∧ t[q.ix]? = some q.x := by
            have h1 := hti.at_ q (List.mem_cons_self ..)
            rw [List.getD_eq_getElem?_getD] at h1
            rcases h2 : tv[q.tb]? with _ | t
            · rw [h2] at h1; cases h1
            · rw [h2] at h1; exact ⟨t, rfl, h1⟩
          have hql : q.x.ls.length ≤ 1000000 := HLB.out t (List.mem_of_getElem? htv) q.x (List.mem_of_getElem? hqt)
          have htl := tab_len (List.mem_of_getElem? htv)
          have hqix := (List.getElem?_eq_some_iff.1 hqt).1
          have hqtb := (List.getElem?_eq_some_iff.1 htv).1
          obtain ⟨tk, tof, tB, td, rfl, htt⟩ := HT.out.at3 htv
          have HTT := Lib.hid htt
          have HTV := Lib.hid htv
          obtain ⟨tn, htn⟩ : ∃ tn, tn = t.length := ⟨_, rfl⟩
          rw [← htn] at HTT htl hqix
          have HTN := Lib.hid htn
          clear htt htv hqt htn
          have HST := Lib.hid (And.intro hg (And.intro hti (And.intro hle hqx)))
          have HNE := Lib.hid hne
          have HK2 : Hid ((rem tv (q :: row n g)).length = least (Ml w w.heap.size O (O + 1) tv wr)) := Lib.hid (by rw [← HK.out]; exact (rem_perm tv hperm).length_eq)
          have HH4 := Lib.hid hH4
          have HC := Lib.hid hC
          have HO4 := Lib.hid hO4
          have HP4 := Lib.hid hP4
          obtain ⟨oA, oc, ob1, ob2, ob3⟩ := hO4.tb
          obtain ⟨m, hm⟩ : ∃ m, m = l.length := ⟨_, rfl⟩
          rw [← hm] at ob1 ob2 ob3 hul
          have e0 := ob1.c1
          have HM := Lib.hid hm
          have HB1 := Lib.hid ob1
          have HB2 := Lib.hid ob2
          have HB3 := Lib.hid ob3
          obtain ⟨C, hCe⟩ : ∃ C, C = w3.heap.size := ⟨_, rfl⟩
          rw [← hwb]
          rw [← hCe] at HC HNE hCW ⊢
          obtain ⟨B, hB⟩ : ∃ B, B = newL l q.x.ls := ⟨_, rfl⟩
          have HB := Lib.hid hB
          clear hg hperm hle hq HO HP HPOP hC hb3 hH4 hke hP4 hK3 hH3 HH hhp g0 hwb hta HTI hti hqx HK hO4 hm hne ob1 ob2 ob3 hCe hB
          go_upto_region 15 with fail
          clear e0
          go_cut [59] from 34 to 102 (fun s wx => s = .bool B ∧ Below wb.heap.size wb wx)
          case first =>
            rcases m with _ | m
            · have hbt : B = true := by
                rw [HB.out, List.eq_nil_of_length_eq_zero HM.out.symm]; rfl
              subst hbt
              refine wp_region_facts [] (by kernel_rfl) 106 (by kernel_rfl) rfl (fun _ _ h => by cases h) (fun _ _ h => by cases h) ?_
              repeat (first
                | (refine Chain.step (v := ?_) (a' := ?_) rfl rfl rfl ?_ ?_ ?_
                   rotate_left 2
                   focus (intro w; go_simp; try with_reducible rfl)
                   focus (simp only [Act.put, List.setIfInBounds_toArray, List.set_cons_succ, List.set_cons_zero]; try rfl))
                | (refine Chain.skip (a' := ?_) rfl rfl rfl ?_ ?_
                   rotate_left 1
                   focus (simp only [Act.put, List.setIfInBounds_toArray, List.set_cons_succ, List.set_cons_zero]; try rfl)))
              refine Chain.end_ (fun wz hwz _ => ?_)
              go_wp2_with fail
              go_meet
              case rel => exact ⟨rfl, hwz⟩
            · obtain ⟨x, hx⟩ : ∃ x, l[m]? = some x := ⟨_, List.getElem?_eq_getElem (by have := HM.out; omega)⟩
              have hbt : B = !decide (cmpL x.ls q.x.ls = 0) := by rw [HB.out]; exact newL_at _ HM.out.symm hx
              obtain ⟨b, o, rfl, a0, a1, hrx⟩ := HB3.out.at_ hx
              obtain ⟨Z, hZ⟩ : ∃ Z, Z = cmpL x.ls q.x.ls := ⟨_, rfl⟩
              rw [← hZ] at hbt
              have hcm := fun w' (hb : Below wb.heap.size wb w') => lcompare_any _ _ _ _ w' (hrx.1.below hb) ((HST.out.2.2.2.below (HH4.out.buf.below)).1.below hb)
              rw [← hZ] at hcm
              have HCM := Lib.hid hcm
              have HBT := Lib.hid hbt
              have HX := Lib.hid hx
              clear hcm hbt hZ a0 a1 hrx hx
              have hne : (((m + 1 : Nat) : Int) == 0) = false := by rw [beq_eq_false_iff_ne]; omega
              have hlo : (0 : Int) ≤ (m : Int) := by omega
              have hlt : (m : Int) < ((m + 1 : Nat) : Int) := by omega
              have hlt1 : (m : Int) < (m : Int) + 1 := by omega
              have hlt2 : m < m + 1 := by omega
              have hw2 : IntKind.i64.wrap ((m : Int) + 1 - 1) = (m : Int) := by rw [IntKind.wrap_i64]; omega
              have hw3 : IntKind.i64.wrap (m : Int) = (m : Int) := by rw [IntKind.wrap_i64]; omega
              refine wp_region_facts [(3, (isV (.slice (some ⟨b, o, none⟩) (m + 1) oc), noFact)), (8, (isV (.slice x.la x.ls.length x.lc), noFact)), (11, (isV (.slice q.x.la q.x.ls.length q.x.lc), noFact)), (12, (isV (.int .i64 Z), noFact))] (by kernel_rfl) 106 (by kernel_rfl) rfl ?_ ?_ ?_
              · apply lookup_ne
                simp only [List.forall_mem_cons, List.not_mem_nil, false_imp_iff, implies_true, and_true]
                exact ⟨⟨_, rfl⟩, ⟨_, rfl⟩, ⟨_, rfl⟩, ⟨_, rfl⟩⟩
              · apply lookup_st
                simp only [List.forall_mem_cons, List.not_mem_nil, false_imp_iff, implies_true, and_true]
                refine ⟨?_, ?_, ?_, ?_⟩
                · exact fun _ _ _ _ _ => trivial
                · exact fun _ _ _ _ _ => trivial
                · exact fun _ _ _ _ _ => trivial
                · exact fun _ _ _ _ _ => trivial
              repeat (first
                | (refine Chain.step (v := ?_) (a' := ?_) rfl rfl rfl ?_ ?_ ?_
                   rotate_left 2
                   focus (intro w; go_simp; try with_reducible rfl)
                   focus (simp only [Act.put, List.setIfInBounds_toArray, List.set_cons_succ, List.set_cons_zero]; try rfl))
                | (refine Chain.skip (a' := ?_) rfl rfl rfl ?_ ?_
                   rotate_left 1
                   focus (simp only [Act.put, List.setIfInBounds_toArray, List.set_cons_succ, List.set_cons_zero]; try rfl)))
              refine Chain.call' (a' := ?_) _ rfl rfl rfl rfl (fun wx hw hF => ?_) ?_ ?_
              rotate_left 1
              focus
                have g0 := (HB1.out.below hw).c1
                go_simp; first | exact ⟨rfl, Below.refl _ _⟩ | exact Below.refl _ _
              focus (simp only [Act.put, List.setIfInBounds_toArray, List.set_cons_succ, List.set_cons_zero]; try rfl)
              repeat (first
                | (refine Chain.step (v := ?_) (a' := ?_) rfl rfl rfl ?_ ?_ ?_
                   rotate_left 2
                   focus (intro w; go_simp; try with_reducible rfl)
                   focus (simp only [Act.put, List.setIfInBounds_toArray, List.set_cons_succ, List.set_cons_zero]; try rfl))
                | (refine Chain.skip (a' := ?_) rfl rfl rfl ?_ ?_
                   rotate_left 1
                   focus (simp only [Act.put, List.setIfInBounds_toArray, List.set_cons_succ, List.set_cons_zero]; try rfl)))
              refine Chain.call' (a' := ?_) _ rfl rfl rfl rfl (fun wx hw hF => ?_) ?_ ?_
              rotate_left 1
              focus
                have g0 := ((HB3.out.below hw).at2 HX.out).1
                go_simp; first | exact ⟨rfl, Below.refl _ _⟩ | exact Below.refl _ _
              focus (simp only [Act.put, List.setIfInBounds_toArray, List.set_cons_succ, List.set_cons_zero]; try rfl)
              repeat (first
                | (refine Chain.step (v := ?_) (a' := ?_) rfl rfl rfl ?_ ?_ ?_
                   rotate_left 2
                   focus (intro w; go_simp; try with_reducible rfl)
                   focus (simp only [Act.put, List.setIfInBounds_toArray, List.set_cons_succ, List.set_cons_zero]; try rfl))
                | (refine Chain.skip (a' := ?_) rfl rfl rfl ?_ ?_
                   rotate_left 1
                   focus (simp only [Act.put, List.setIfInBounds_toArray, List.set_cons_succ, List.set_cons_zero]; try rfl)))
              refine Chain.call' (a' := ?_) _ rfl rfl rfl rfl (fun wx hw hF => ?_) ?_ ?_
              rotate_left 1
              focus
                obtain ⟨k0, k1, k2, k3⟩ := (HC.out.below hw).c4
                go_simp; first | exact ⟨rfl, Below.refl _ _⟩ | exact Below.refl _ _
              focus (simp only [Act.put, List.setIfInBounds_toArray, List.set_cons_succ, List.set_cons_zero]; try rfl)
              repeat (first
                | (refine Chain.step (v := ?_) (a' := ?_) rfl rfl rfl ?_ ?_ ?_
                   rotate_left 2
                   focus (intro w; go_simp; try with_reducible rfl)
                   focus (simp only [Act.put, List.setIfInBounds_toArray, List.set_cons_succ, List.set_cons_zero]; try rfl))
                | (refine Chain.skip (a' := ?_) rfl rfl rfl ?_ ?_
                   rotate_left 1
                   focus (simp only [Act.put, List.setIfInBounds_toArray, List.set_cons_succ, List.set_cons_zero]; try rfl)))
              refine Chain.call' (a' := ?_) _ rfl rfl rfl rfl (fun wx hw hF => ?_) ?_ ?_
              rotate_left 1
              focus
                go_simp; (with_reducible refine (HCM.out _ hw).mono ?_); exact (fun e w' ⟨h1, h2⟩ => by subst h1; exact ⟨rfl, h2⟩)
              focus (simp only [Act.put, List.setIfInBounds_toArray, List.set_cons_succ, List.set_cons_zero]; try rfl)
              repeat (first
                | (refine Chain.step (v := ?_) (a' := ?_) rfl rfl rfl ?_ ?_ ?_
                   rotate_left 2
                   focus (intro w; go_simp; try with_reducible rfl)
                   focus (simp only [Act.put, List.setIfInBounds_toArray, List.set_cons_succ, List.set_cons_zero]; try rfl))
                | (refine Chain.skip (a' := ?_) rfl rfl rfl ?_ ?_
                   rotate_left 1
                   focus (simp only [Act.put, List.setIfInBounds_toArray, List.set_cons_succ, List.set_cons_zero]; try rfl)))
              refine Chain.end_ (fun wz hwz _ => ?_)
              go_wp2_with fail
              go_meet
              case rel => 
                refine ⟨?_, hwz⟩
                rw [HBT.out, show ((m : Int) + 1 == 0) = false by rw [beq_eq_false_iff_ne]; omega, Bool.false_or]
                by_cases hz : Z = 0
                · rw [hz]; rfl
                · rw [decide_eq_false hz, bne_iff_ne.2 hz]; rfl
          case rest =>
            obtain ⟨rfl, hbw⟩ := hcut
            have HO5 := Lib.hid (HO4.out.ke (Ke.of_below (Ts := Tq) hbw) (below_trans HH4.out.buf.below hbw) (by decide) (by decide) (by decide) (by decide))
            have HP5 := Lib.hid (HP4.out.ke (Ke.of_below (Ts := Tq) hbw) (below_trans HH4.out.buf.below hbw) (by decide) (by decide))
            have HH5 := Lib.hid (HH4.out.below hbw)
            have HC5 := Lib.hid (HC.out.below hbw)
            clear HO4 HP4 HH4 HC HB1 HB2 HB3 hbw
            go_upto_if 59 with fail
            go_cut [59] from 34 to 102 (fun _ wx => Mid w O (O + 1) C q (grpOf S) wx ∧ Hs w w.heap.size n g A' c' wx)
            case first =>
              rcases B with _ | _
              · go_wp2_with fail
                go_meet
                case rel =>
                  obtain ⟨l0, x, hl0, hxl, hadd⟩ := add_old (r := plR q.x) HU.out HB.out.symm
                  subst hl0
                  exact ⟨⟨l0, x, ps, HO5.out, HP5.out, hxl, HC5.out, hadd, by omega⟩, HH5.out⟩
              · have hfl := flush_any w wc O (O + 1) l ps (grpOf S) HO5.out HP5.out HU.out (by have := HM.out; omega) (by omega) (by omega)
                have HFL := Lib.hid hfl
                clear hfl
                go_upto_region 17 with fail
                refine HFL.out.mono ?_
                rintro e w5 ⟨rfl, l1, ho, hp, hke, hpl, hlen⟩
                rw [← HM.out] at hlen
                have hG : (grpOf S).add (plR q.x) = ⟨l1.map plR, some (q.x.ls, [q.x.ss])⟩ := by
                  rw [add_new (r := plR q.x) HU.out HB.out.symm, hpl]; rfl
                obtain ⟨A5, c5, b5, n5, _⟩ := ho.tb
                rw [hlen] at b5 n5
                have C6 := hke.blk HC5.out (by decide)
                have H6 := HH5.out.ke hke n5.below (by decide) (by decide)
                have hcl := fun w' (hb : Below w5.heap.size w5 w') => cloneSet_any (.slice q.x.la q.x.ls.length q.x.lc) q.x.ls w' ((HST.out.2.2.2.below n5.below).1.below hb) hql
                have HCL := Lib.hid hcl
                have HFIN := Lib.hid (fun (wa w2 : World) (A6 A2 : Option Addr) (c6 c2 : Nat) h1 h2 h3 h4 h5 => Mid.new (wa := wa) (w2 := w2) (A6 := A6) (A2 := A2) (c6 := c6) (c2 := c2) ho hp hlen C6 H6 h1 b5 h2 h3 h4 h5 hG)
                have HN5 := Lib.hid n5
                have HB5 := Lib.hid b5
                have g0 := b5.c1
                obtain ⟨k0, k1, k2, k3⟩ := C6.c4
                clear ho hp hke hpl hlen hG b5 n5 C6 H6 hcl HFL HO5 HP5 HC5 HH5
                go_upto_region 17 with fail
                go_region_law (first
                  | (((rw [if_pos (by rfl)]); go_simp; go_at_call 32; refine (HCL.out _ (Below.refl _ _).drew).mono ?_; rintro e w6 ⟨v6, rfl, n6⟩; obtain ⟨A6, c6, rfl, hc6⟩ := n6.buf.shape; have g6 := (HB5.out.drew.below n6.below).c1; have g6a : ∀ o, (w6.alloc o).cell? ⟨O, 0, none⟩ = some (.slice A5 m c5) := fun o => ((HB5.out.drew.below n6.below).alloc o).c1; have b6 : Below w5.heap.size w5 w6 := below_trans (Below.refl _ _).drew n6.below; dsimp only))
                  | ((refine step_append_buf rfl (.tmp 62) (.tmp 68) 23 rfl mrow_ty rfl ((HN5.out.buf.below b6).alloc _) rfl ((Buf.lit w6 50 2 1 [.slice A6 q.x.ls.length c6, .slice none 0 0] rfl (by decide)).src mrow_ty.slice (by simp [Value.oneCell'])) (by simp only [maxLen]; omega) (by omega) ?_; intro v2 w2 hb2 ha2 hg2; obtain ⟨A2, c2, rfl, hc2⟩ := hb2.shape; have Y2 := ((HB5.out.below b6).alloc _).ap ((HN5.out.buf.below b6).alloc _) ha2 (by decide); have HB8 := Lib.hid (And.intro hb2 (And.intro ha2 hg2)); clear hb2 ha2 hg2; have d0 := Y2.c1; have d1 := Y2.free 0; clear Y2)))
                all_goals
                  have hfin := HFIN.out _ w2 A6 A2 c6 c2 (below_trans b6 (below_alloc1 _ _)) ((n6.after HN5.out.below.drew).alloc _) HB8.out.1 HB8.out.2.1 HB8.out.2.2
                  have HFN := Lib.hid hfin
                  clear hfin n6 b6 g6 g6a d0 d1
                  go_wp2_with fail
                  go_meet
                  case rel => exact HFN.out
            case rest =>
              clear HO5 HP5 HH5 HC5
              obtain ⟨⟨l0, x, ps2, hO6, hP6, hxl, hC6, hadd, hpl2⟩, hH6⟩ := hcut
              obtain ⟨⟨PA, pc, vs, p1, p2, p3⟩, _⟩ := id hP6
              have g0 := p1.c1
              have gf := p1.free 0
              obtain ⟨k0, k1, k2, k3⟩ := hC6.c4
              have HO6 := Lib.hid hO6
              have HP6 := Lib.hid hP6
              have HC6 := Lib.hid hC6
              have HH6 := Lib.hid hH6
              have HAD := Lib.hid (And.intro hxl hadd)
              have HP1 := Lib.hid p1
              have HP2 := Lib.hid p2
              have HP3 := Lib.hid p3
              obtain ⟨pn, hpn⟩ : ∃ pn, pn = ps2.length := ⟨_, rfl⟩
              rw [← hpn] at HP1 HP2 g0 hpl2
              have HPN := Lib.hid hpn
              clear hO6 hP6 hC6 hH6 hxl hadd p1 p2 p3 hul hcn HU HB HM hpn
              go_upto_region 18 with fail
              have hsrc := (Buf.lit wc 48 1 1 [.slice q.x.sa q.x.ss.length q.x.sc] rfl (by decide)).src (P := Tryz.prog) part_ty.slice (by simp [Value.oneCell'])
              have HSR := Lib.hid hsrc
              clear hsrc
              go_upto_region 19 with (at_builtin; refine wpList_append_el rfl (.tmp 70) (.tmp 74) 77 77 rfl part_ty rfl (HP2.out.buf.alloc _) rfl HSR.out (by simp only [maxLen]; omega) (by omega) ?_; intro v2 w2 hb2 ha2 hg2; obtain ⟨A2, c2, rfl, hc2⟩ := hb2.shape; have Y2 := (HP1.out.alloc _).ap (HP2.out.buf.alloc _) ha2 (by decide); have HB8 := Lib.hid (And.intro hb2 (And.intro ha2 hg2)); clear hb2 ha2 hg2; have d0 := Y2.c1; have d1 := Y2.free 0; clear Y2)
              have htl7 := Tl.part HO6.out HP6.out HPN.out.symm HAD.out.2 HC6.out HH6.out (below_alloc1 _ _) HP1.out HP2.out HST.out.2.2.2 HP3.out HB8.out.1 HB8.out.2.1 HB8.out.2.2
              obtain ⟨w7, hw7⟩ : ∃ w7, w7 = w2.setCell ⟨O + 1, 0, none⟩ (.slice A2 (pn + 1) c2) := ⟨_, rfl⟩
              rw [← hw7] at htl7 ⊢
              have htl8 := htl7.setC hCW HNE.out 1 (.int .i64 ((q.ix : Int) + 1))
              have e7 : #[Value.int .i64 q.tb, .int .i64 q.ix, .slice q.x.la q.x.ls.length q.x.lc, .slice q.x.sa q.x.ss.length q.x.sc].setIfInBounds 1 (.int .i64 ((q.ix : Int) + 1)) = #[.int .i64 q.tb, .int .i64 ((q.ix : Int) + 1), .slice q.x.la q.x.ls.length q.x.lc, .slice q.x.sa q.x.ss.length q.x.sc] := rfl
              rw [e7] at htl8
              obtain ⟨_, k1, _, _⟩ := htl7.blk.c4
              have u1 := htl7.blk.free 1
              have HT8 := Lib.hid htl8
              have hwr : IntKind.i64.wrap ((q.ix : Int) + 1) = (q.ix : Int) + 1 := by rw [IntKind.wrap_i64]; omega
              clear hw7 htl7 htl8 e7 HO6 HP6 HPN HAD HC6 HH6 HP1 HP2 HP3 HB8 HSR d0 d1 g0 gf hc2 k0 k2 k3
              go_upto_region 20 with fail
              obtain ⟨w8, hw8⟩ : ∃ w8, w8 = w7.setCell ⟨C, 1, none⟩ (.int .i64 ((q.ix : Int) + 1)) := ⟨_, rfl⟩
              rw [← hw8] at HT8 ⊢
              have b8 : Below w.heap.size w w8 := HT8.out.hs.buf.below
              have x1 : (q.tb : Int) < (tv.length : Int) := by omega
              have x2 : ((q.ix : Int) + 1).toNat = q.ix + 1 := by omega
              have x3 : (0 : Int) ≤ (q.ix : Int) + 1 := by omega
              clear hw8 k1 u1 hwr
              by_cases hgo2 : q.ix + 1 < tn
              · obtain ⟨y, hy⟩ : ∃ y, t[q.ix + 1]? = some y := ⟨_, List.getElem?_eq_getElem (by have := HTN.out; omega)⟩
                have x4 : (q.ix : Int) + 1 < (tn : Int) := by omega
                obtain ⟨rb, ro, rfl, _⟩ := (HTT.out _ (Below.refl _ _)).2.at_ hy
                have HY := Lib.hid hy
                clear hy
                refine wp_region_facts [(1, (isV (.int .i64 ((q.ix : Int) + 1)), noFact)), (4, (isV (.int .i64 q.tb), noFact)), (6, (isV (.slice (some ⟨rb, ro, none⟩) tn td), noFact))] (by kernel_rfl) 106 (by kernel_rfl) rfl ?_ ?_ ?_
                · apply lookup_ne
                  simp only [List.forall_mem_cons, List.not_mem_nil, false_imp_iff, implies_true, and_true]
                  exact ⟨⟨_, rfl⟩, ⟨_, rfl⟩, ⟨_, rfl⟩⟩
                · apply lookup_st
                  simp only [List.forall_mem_cons, List.not_mem_nil, false_imp_iff, implies_true, and_true]
                  refine ⟨?_, ?_, ?_⟩
                  · exact fun _ _ _ _ _ => trivial
                  · exact fun _ _ _ _ _ => trivial
                  · exact fun _ _ _ _ _ => trivial
                repeat (first
                  | (refine Chain.step (v := ?_) (a' := ?_) rfl rfl rfl ?_ ?_ ?_
                     rotate_left 2
                     focus (intro w; go_simp; try with_reducible rfl)
                     focus (simp only [Act.put, List.setIfInBounds_toArray, List.set_cons_succ, List.set_cons_zero]; try rfl))
                  | (refine Chain.skip (a' := ?_) rfl rfl rfl ?_ ?_
                     rotate_left 1
                     focus (simp only [Act.put, List.setIfInBounds_toArray, List.set_cons_succ, List.set_cons_zero]; try rfl)))
                refine Chain.call' (a' := ?_) _ rfl rfl rfl rfl (fun wx hw hF => ?_) ?_ ?_
                rotate_left 1
                focus
                  obtain ⟨g0, g1, g2, g3⟩ := Blk.c4 (HT8.out.blk.below hw); go_simp; first | exact ⟨rfl, Below.refl _ _⟩ | exact Below.refl _ _
                focus (simp only [Act.put, List.setIfInBounds_toArray, List.set_cons_succ, List.set_cons_zero]; try rfl)
                repeat (first
                  | (refine Chain.step (v := ?_) (a' := ?_) rfl rfl rfl ?_ ?_ ?_
                     rotate_left 2
                     focus (intro w; go_simp; try with_reducible rfl)
                     focus (simp only [Act.put, List.setIfInBounds_toArray, List.set_cons_succ, List.set_cons_zero]; try rfl))
                  | (refine Chain.skip (a' := ?_) rfl rfl rfl ?_ ?_
                     rotate_left 1
                     focus (simp only [Act.put, List.setIfInBounds_toArray, List.set_cons_succ, List.set_cons_zero]; try rfl)))
                refine Chain.call' (a' := ?_) _ rfl rfl rfl rfl (fun wx hw hF => ?_) ?_ ?_
                rotate_left 1
                focus
                  obtain ⟨g0, g1, g2, g3⟩ := Blk.c4 (HT8.out.blk.below hw); go_simp; first | exact ⟨rfl, Below.refl _ _⟩ | exact Below.refl _ _
                focus (simp only [Act.put, List.setIfInBounds_toArray, List.set_cons_succ, List.set_cons_zero]; try rfl)
                repeat (first
                  | (refine Chain.step (v := ?_) (a' := ?_) rfl rfl rfl ?_ ?_ ?_
                     rotate_left 2
                     focus (intro w; go_simp; try with_reducible rfl)
                     focus (simp only [Act.put, List.setIfInBounds_toArray, List.set_cons_succ, List.set_cons_zero]; try rfl))
                  | (refine Chain.skip (a' := ?_) rfl rfl rfl ?_ ?_
                     rotate_left 1
                     focus (simp only [Act.put, List.setIfInBounds_toArray, List.set_cons_succ, List.set_cons_zero]; try rfl)))
                refine Chain.call' (a' := ?_) _ rfl rfl rfl rfl (fun wx hw hF => ?_) ?_ ?_
                rotate_left 1
                focus
                  have g0 := (HTT.out _ (below_trans b8 hw)).1
                  go_simp; first | exact ⟨rfl, Below.refl _ _⟩ | exact Below.refl _ _
                focus (simp only [Act.put, List.setIfInBounds_toArray, List.set_cons_succ, List.set_cons_zero]; try rfl)
                repeat (first
                  | (refine Chain.step (v := ?_) (a' := ?_) rfl rfl rfl ?_ ?_ ?_
                     rotate_left 2
                     focus (intro w; go_simp; try with_reducible rfl)
                     focus (simp only [Act.put, List.setIfInBounds_toArray, List.set_cons_succ, List.set_cons_zero]; try rfl))
                  | (refine Chain.skip (a' := ?_) rfl rfl rfl ?_ ?_
                     rotate_left 1
                     focus (simp only [Act.put, List.setIfInBounds_toArray, List.set_cons_succ, List.set_cons_zero]; try rfl)))
                refine Chain.end_ (fun wz hwz _ => ?_)
                have HT9 := Lib.hid (HT8.out.below hwz)
                have b9 := below_trans b8 hwz
                clear HT8 b8 hwz
                go_upto_region 21 with fail
                have hstT : ∀ k v w w', Below w.heap.size w w' → Dv.factOf ([(2, ((fun v => v = (.int .i64 q.tb)), noFact, 2)), (4, ((fun v => v = (.slice (some ⟨rb, ro, none⟩) tn td)), noFact, 4)), (6, ((fun v => v = (.int .i64 ((q.ix : Int) + 1))), noFact, 6)), (8, ((fun v => v = (.agg #[.slice y.la y.ls.length y.lc, .slice y.sa y.ss.length y.sc])), noFact, 8)), (10, ((fun _ => True), noFact, 10))] : List (Nat × Dv.Kp)) k v w → Dv.factOf ([(2, ((fun v => v = (.int .i64 q.tb)), noFact, 2)), (4, ((fun v => v = (.slice (some ⟨rb, ro, none⟩) tn td)), noFact, 4)), (6, ((fun v => v = (.int .i64 ((q.ix : Int) + 1))), noFact, 6)), (8, ((fun v => v = (.agg #[.slice y.la y.ls.length y.lc, .slice y.sa y.ss.length y.sc])), noFact, 8)), (10, ((fun _ => True), noFact, 10))] : List (Nat × Dv.Kp)) k v w' := Dv.fact_st (by
                  simp only [List.forall_mem_cons, List.not_mem_nil, false_imp_iff, implies_true, and_true]
                  refine ⟨?_, ?_, ?_, ?_, ?_⟩
                  · exact fun _ _ _ _ _ => trivial
                  · exact fun _ _ _ _ _ => trivial
                  · exact fun _ _ _ _ _ => trivial
                  · exact fun _ _ _ _ _ => trivial
                  · exact fun _ _ _ _ _ => trivial)
                have htrT : ∀ x ∈ ([(2, ((fun v => v = (.int .i64 q.tb)), noFact, 2)), (4, ((fun v => v = (.slice (some ⟨rb, ro, none⟩) tn td)), noFact, 4)), (6, ((fun v => v = (.int .i64 ((q.ix : Int) + 1))), noFact, 6)), (8, ((fun v => v = (.agg #[.slice y.la y.ls.length y.lc, .slice y.sa y.ss.length y.sc])), noFact, 8)), (10, ((fun _ => True), noFact, 10))] : List (Nat × Dv.Kp)), (([(2, ((fun v => v = (.int .i64 q.tb)), noFact, 2)), (4, ((fun v => v = (.slice (some ⟨rb, ro, none⟩) tn td)), noFact, 4)), (6, ((fun v => v = (.int .i64 ((q.ix : Int) + 1))), noFact, 6)), (8, ((fun v => v = (.agg #[.slice y.la y.ls.length y.lc, .slice y.sa y.ss.length y.sc])), noFact, 8)), (10, ((fun _ => True), noFact, 10))] : List (Nat × Dv.Kp)).lookup x.2.2.2).isSome = true := by
                  simp only [List.forall_mem_cons, List.not_mem_nil, false_imp_iff, implies_true, and_true]
                  exact ⟨by kernel_rfl, by kernel_rfl, by kernel_rfl, by kernel_rfl, by kernel_rfl⟩
                refine Dv.wp_region_two (L := ([(2, ((fun v => v = (.int .i64 q.tb)), noFact, 2)), (4, ((fun v => v = (.slice (some ⟨rb, ro, none⟩) tn td)), noFact, 4)), (6, ((fun v => v = (.int .i64 ((q.ix : Int) + 1))), noFact, 6)), (8, ((fun v => v = (.agg #[.slice y.la y.ls.length y.lc, .slice y.sa y.ss.length y.sc])), noFact, 8)), (10, ((fun _ => True), noFact, 10))] : List (Nat × Dv.Kp))) (m := 10) (Fin := (FinT w O (O + 1) C w.heap.size n g A' c' ((grpOf S).add (plR q.x)) (l0 ++ [x]) (ps2 ++ [q.x.ss]) q y)) (by kernel_rfl) 106 (by kernel_rfl) rfl (by kernel_rfl) ?_ ?_ ?_
                · simp only [List.forall_mem_cons, List.not_mem_nil, false_imp_iff, implies_true, and_true]
                  exact ⟨⟨_, rfl⟩, ⟨_, rfl⟩, ⟨_, rfl⟩, ⟨_, rfl⟩, ⟨undef, trivial⟩⟩
                · exact (fun _ _ _ _ h => h)
                repeat (first
                  | (refine Dv.Chain.step (v := ?_) (a' := ?_) rfl rfl rfl ?_ ?_ ?_
                     rotate_left 2
                     focus (intro w; go_simp; try with_reducible rfl)
                     focus (simp only [Act.put, List.setIfInBounds_toArray, List.set_cons_succ, List.set_cons_zero]; try rfl))
                  | (refine Dv.Chain.skip' (a' := ?_) rfl rfl rfl ?_ ?_
                     rotate_left 1
                     focus (simp only [Act.put, List.setIfInBounds_toArray, List.set_cons_succ, List.set_cons_zero]; try rfl)))
                refine Dv.XT.call (a' := ?_) _ _ rfl (by decide) hstT rfl rfl (fun wx hw hF => ?_) htrT ?_ ?_
                rotate_left 1
                focus
                  obtain ⟨g0, g1, g2, g3⟩ := Blk.c4 (HT9.out.blk.below hw); go_simp; first | exact ⟨rfl, Below.refl _ _⟩ | exact Below.refl _ _
                focus (simp only [Act.put, List.setIfInBounds_toArray, List.set_cons_succ, List.set_cons_zero]; try rfl)
                repeat (first
                  | (refine Dv.Chain.step (v := ?_) (a' := ?_) rfl rfl rfl ?_ ?_ ?_
                     rotate_left 2
                     focus (intro w; go_simp; try with_reducible rfl)
                     focus (simp only [Act.put, List.setIfInBounds_toArray, List.set_cons_succ, List.set_cons_zero]; try rfl))
                  | (refine Dv.Chain.skip' (a' := ?_) rfl rfl rfl ?_ ?_
                     rotate_left 1
                     focus (simp only [Act.put, List.setIfInBounds_toArray, List.set_cons_succ, List.set_cons_zero]; try rfl)))
                refine Dv.XT.call (a' := ?_) _ _ rfl (by decide) hstT rfl rfl (fun wx hw hF => ?_) htrT ?_ ?_
                rotate_left 1
                focus
                  have g0 := (HTT.out _ (below_trans b9 hw)).1
                  go_simp; first | exact ⟨rfl, Below.refl _ _⟩ | exact Below.refl _ _
                focus (simp only [Act.put, List.setIfInBounds_toArray, List.set_cons_succ, List.set_cons_zero]; try rfl)
                repeat (first
                  | (refine Dv.Chain.step (v := ?_) (a' := ?_) rfl rfl rfl ?_ ?_ ?_
                     rotate_left 2
                     focus (intro w; go_simp; try with_reducible rfl)
                     focus (simp only [Act.put, List.setIfInBounds_toArray, List.set_cons_succ, List.set_cons_zero]; try rfl))
                  | (refine Dv.Chain.skip' (a' := ?_) rfl rfl rfl ?_ ?_
                     rotate_left 1
                     focus (simp only [Act.put, List.setIfInBounds_toArray, List.set_cons_succ, List.set_cons_zero]; try rfl)))
                refine Dv.XT.call (a' := ?_) _ _ rfl (by decide) hstT rfl rfl (fun wx hw hF => ?_) htrT ?_ ?_
                rotate_left 1
                focus
                  obtain ⟨g0, g1, g2, g3⟩ := Blk.c4 (HT9.out.blk.below hw); go_simp; first | exact ⟨rfl, Below.refl _ _⟩ | exact Below.refl _ _
                focus (simp only [Act.put, List.setIfInBounds_toArray, List.set_cons_succ, List.set_cons_zero]; try rfl)
                repeat (first
                  | (refine Dv.Chain.step (v := ?_) (a' := ?_) rfl rfl rfl ?_ ?_ ?_
                     rotate_left 2
                     focus (intro w; go_simp; try with_reducible rfl)
                     focus (simp only [Act.put, List.setIfInBounds_toArray, List.set_cons_succ, List.set_cons_zero]; try rfl))
                  | (refine Dv.Chain.skip' (a' := ?_) rfl rfl rfl ?_ ?_
                     rotate_left 1
                     focus (simp only [Act.put, List.setIfInBounds_toArray, List.set_cons_succ, List.set_cons_zero]; try rfl)))
                refine Dv.XT.call (a' := ?_) _ _ rfl (by decide) hstT rfl rfl (fun wx hw hF => ?_) htrT ?_ ?_
                rotate_left 1
                focus
                  obtain ⟨r0, r1, _⟩ := (HTT.out _ (below_trans b9 hw)).2.at2 HY.out
                  go_simp; first | exact ⟨rfl, Below.refl _ _⟩ | exact Below.refl _ _
                focus (simp only [Act.put, List.setIfInBounds_toArray, List.set_cons_succ, List.set_cons_zero]; try rfl)
                repeat (first
                  | (refine Dv.Chain.step (v := ?_) (a' := ?_) rfl rfl rfl ?_ ?_ ?_
                     rotate_left 2
                     focus (intro w; go_simp; try with_reducible rfl)
                     focus (simp only [Act.put, List.setIfInBounds_toArray, List.set_cons_succ, List.set_cons_zero]; try rfl))
                  | (refine Dv.Chain.skip' (a' := ?_) rfl rfl rfl ?_ ?_
                     rotate_left 1
                     focus (simp only [Act.put, List.setIfInBounds_toArray, List.set_cons_succ, List.set_cons_zero]; try rfl)))
                refine Dv.XT.last _ _ _ rfl rfl (by kernel_rfl) rfl rfl (fun vs wx hw hF => ?_) (fun v10 hv10 a' ha => ?_)
                focus
                  have hfin := FinT.of (y := y) HT9.out hCW HNE.out hw vs
                  have HFIN := Lib.hid hfin
                  obtain ⟨k0, k1, k2, k3⟩ := (HT9.out.blk.below hw).c4
                  have u2 := (HT9.out.blk.below hw).free 2
                  have u3 := (HT9.out.blk.below hw).free 3
                  clear hfin
                  go_simp
                  exact ⟨undef, HFIN.out⟩
                obtain _ := hv10
                simp only [Act.put] at ha
                subst ha
                repeat (first
                  | (refine Dv.Chain.step (v := ?_) (a' := ?_) rfl rfl rfl ?_ ?_ ?_
                     rotate_left 2
                     focus (intro w; go_simp; try with_reducible rfl)
                     focus (simp only [Act.put, List.setIfInBounds_toArray, List.set_cons_succ, List.set_cons_zero]; try rfl))
                  | (refine Dv.Chain.skip' (a' := ?_) rfl rfl rfl ?_ ?_
                     rotate_left 1
                     focus (simp only [Act.put, List.setIfInBounds_toArray, List.set_cons_succ, List.set_cons_zero]; try rfl)))
                refine Dv.XT.end_ (by decide) (fun vs w10 hv hfin => ?_)
                unfold FinT at hfin
                have hpu := heapPush_any w.heap.size n c' g A' ⟨q.tb, q.ix + 1, y⟩ w w10 hfin.hs HST.out.1 (by omega) ((HTT.out _ (Below.refl _ _)).2.at2 HY.out).2.2
                dsimp only at hpu
                rw [show ((q.ix + 1 : Nat) : Int) = (q.ix : Int) + 1 from rfl] at hpu
                have HPU := Lib.hid hpu
                obtain ⟨k0, k1, k2, k3⟩ := hfin.blk.c4
                have HT10 := Lib.hid hfin
                clear hpu hfin hv HT9 b9
                go_wp2_with fail
                refine HPU.out.mono ?_
                rintro e w11 ⟨rfl, h, A3, c3, hhp3, hperm3, hH3, hK3⟩
                have hz := Ml.push HT10.out HST.out.2.1 HRS.out HST.out.2.2.1 (by rw [List.getD_eq_getElem?_getD, HTV.out]; exact HY.out) hhp3 hperm3 hH3 hK3
                rw [HK2.out] at hz
                have HZ := Lib.hid hz
                clear hz hhp3 hperm3 hH3 hK3 HPU HT10 k0 k1 k2 k3
                go_wp2_with fail
                go_roundw
                case rel => obtain ⟨k, hk, _⟩ := HZ.out; exact ⟨k, hk⟩
                case measure => obtain ⟨k, hk, hlt⟩ := HZ.out; exact Nat.lt_of_le_of_lt (least_le hk) hlt
              · have x4 : (tn : Int) ≤ (q.ix : Int) + 1 := by omega
                refine wp_region_facts [(1, (isV (.int .i64 ((q.ix : Int) + 1)), noFact)), (4, (isV (.int .i64 q.tb), noFact)), (6, (isV (.slice tB tn td), noFact))] (by kernel_rfl) 106 (by kernel_rfl) rfl ?_ ?_ ?_
                · apply lookup_ne
                  simp only [List.forall_mem_cons, List.not_mem_nil, false_imp_iff, implies_true, and_true]
                  exact ⟨⟨_, rfl⟩, ⟨_, rfl⟩, ⟨_, rfl⟩⟩
                · apply lookup_st
                  simp only [List.forall_mem_cons, List.not_mem_nil, false_imp_iff, implies_true, and_true]
                  refine ⟨?_, ?_, ?_⟩
                  · exact fun _ _ _ _ _ => trivial
                  · exact fun _ _ _ _ _ => trivial
                  · exact fun _ _ _ _ _ => trivial
                repeat (first
                  | (refine Chain.step (v := ?_) (a' := ?_) rfl rfl rfl ?_ ?_ ?_
                     rotate_left 2
                     focus (intro w; go_simp; try with_reducible rfl)
                     focus (simp only [Act.put, List.setIfInBounds_toArray, List.set_cons_succ, List.set_cons_zero]; try rfl))
                  | (refine Chain.skip (a' := ?_) rfl rfl rfl ?_ ?_
                     rotate_left 1
                     focus (simp only [Act.put, List.setIfInBounds_toArray, List.set_cons_succ, List.set_cons_zero]; try rfl)))
                refine Chain.call' (a' := ?_) _ rfl rfl rfl rfl (fun wx hw hF => ?_) ?_ ?_
                rotate_left 1
                focus
                  obtain ⟨g0, g1, g2, g3⟩ := Blk.c4 (HT8.out.blk.below hw); go_simp; first | exact ⟨rfl, Below.refl _ _⟩ | exact Below.refl _ _
                focus (simp only [Act.put, List.setIfInBounds_toArray, List.set_cons_succ, List.set_cons_zero]; try rfl)
                repeat (first
                  | (refine Chain.step (v := ?_) (a' := ?_) rfl rfl rfl ?_ ?_ ?_
                     rotate_left 2
                     focus (intro w; go_simp; try with_reducible rfl)
                     focus (simp only [Act.put, List.setIfInBounds_toArray, List.set_cons_succ, List.set_cons_zero]; try rfl))
                  | (refine Chain.skip (a' := ?_) rfl rfl rfl ?_ ?_
                     rotate_left 1
                     focus (simp only [Act.put, List.setIfInBounds_toArray, List.set_cons_succ, List.set_cons_zero]; try rfl)))
                refine Chain.call' (a' := ?_) _ rfl rfl rfl rfl (fun wx hw hF => ?_) ?_ ?_
                rotate_left 1
                focus
                  obtain ⟨g0, g1, g2, g3⟩ := Blk.c4 (HT8.out.blk.below hw); go_simp; first | exact ⟨rfl, Below.refl _ _⟩ | exact Below.refl _ _
                focus (simp only [Act.put, List.setIfInBounds_toArray, List.set_cons_succ, List.set_cons_zero]; try rfl)
                repeat (first
                  | (refine Chain.step (v := ?_) (a' := ?_) rfl rfl rfl ?_ ?_ ?_
                     rotate_left 2
                     focus (intro w; go_simp; try with_reducible rfl)
                     focus (simp only [Act.put, List.setIfInBounds_toArray, List.set_cons_succ, List.set_cons_zero]; try rfl))
                  | (refine Chain.skip (a' := ?_) rfl rfl rfl ?_ ?_
                     rotate_left 1
                     focus (simp only [Act.put, List.setIfInBounds_toArray, List.set_cons_succ, List.set_cons_zero]; try rfl)))
                refine Chain.call' (a' := ?_) _ rfl rfl rfl rfl (fun wx hw hF => ?_) ?_ ?_
                rotate_left 1
                focus
                  have g0 := (HTT.out _ (below_trans b8 hw)).1
                  go_simp; first | exact ⟨rfl, Below.refl _ _⟩ | exact Below.refl _ _
                focus (simp only [Act.put, List.setIfInBounds_toArray, List.set_cons_succ, List.set_cons_zero]; try rfl)
                repeat (first
                  | (refine Chain.step (v := ?_) (a' := ?_) rfl rfl rfl ?_ ?_ ?_
                     rotate_left 2
                     focus (intro w; go_simp; try with_reducible rfl)
                     focus (simp only [Act.put, List.setIfInBounds_toArray, List.set_cons_succ, List.set_cons_zero]; try rfl))
                  | (refine Chain.skip (a' := ?_) rfl rfl rfl ?_ ?_
                     rotate_left 1
                     focus (simp only [Act.put, List.setIfInBounds_toArray, List.set_cons_succ, List.set_cons_zero]; try rfl)))
                refine Chain.end_ (fun wz hwz _ => ?_)
                go_wp2_with fail
                have hz := Ml.last (HT8.out.below hwz) HST.out.2.1 HRS.out HST.out.2.2.1 (by rw [List.getD_eq_getElem?_getD, HTV.out]; show t[q.ix + 1]? = none; exact List.getElem?_eq_none_iff.2 (by have := HTN.out; omega)) HST.out.1
                rw [HK2.out] at hz
                have HZ := Lib.hid hz
                clear hz
                go_roundw
                case rel => obtain ⟨k, hk, _⟩ := HZ.out; exact ⟨k, hk⟩
                case measure => obtain ⟨k, hk, hlt⟩ := HZ.out; exact Nat.lt_of_le_of_lt (least_le hk) hlt
theorem tables_any (v : Value) (tv : List (List Rv)) (w : World) (h : TsAt w v tv) (hl : tv.length ≤ 1000) (hn : (evs (plT tv)).length ≤ 1000000) (hs : tot (evs (plT tv)) ≤ 10000000) (hr : ∀ t ∈ tv, Rls (t.map plR)) (hlab : ∀ t ∈ tv, ∀ x ∈ t, x.ls.length ≤ 1000000) :
    Calls Tryz.prog 9 #[v] w (RetTab w tv) :=
  (tables_own v tv w h hl hn hs hr hlab).mono fun _ _ h => h.tab
end Go.Proofs.YtjklcojnbcemoaaGreatDoor
