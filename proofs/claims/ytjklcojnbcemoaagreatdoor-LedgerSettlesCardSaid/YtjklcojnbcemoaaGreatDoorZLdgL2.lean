/-
  Of what was open, in its order and of rising times, any first ones settle; what is settled must be there then; without one of what must be there it isn't settled. No condition.
-/
import Derived.Test.YtjklcojnbcemoaaGreatDoorZLdgE
import Derived.Test.YtjklcojnbcemoaaGreatDoorTie
import Derived.Test.YtjklcojnbcemoaaGreatDoorCards

namespace Go.Proofs.YtjklcojnbcemoaaGreatDoor
open Go.RowKit Go.Bar Go.Bar.Leb Go.Bar.Lab Go.Bar.Xor Go.Bar.Mrg Go.ChangeShapes Go.WideShapes Go.ChangeAt

theorem pts_szp (l : List On3) : SzP (addAll [] ((l.take 12).map pt3)) 12 := by
  have h := (SzP.nil (n := 0)).addAll (ps := (l.take 12).map pt3) fun p hp => by
    obtain ⟨x, _, rfl⟩ := List.mem_map.1 hp
    exact pt3_isL x
  exact h.mono (by rw [List.length_map, List.length_take]; omega)
theorem pts_times (l : List On3) : ∀ p ∈ (l.take 12).map pt3, p.2.1 < 1000 := fun p hp => by
  obtain ⟨x, _, rfl⟩ := List.mem_map.1 hp
  exact pt3_time x

theorem OwnP.first {W w : World} {A : Option Addr} {n c : Nat} {l : List Pv} (h : OwnP W w (.slice A n c) l) (m : Nat) (hm : m ≤ n) : PtAt w (.slice A m c) (l.take m) := by
  obtain ⟨_, _, he, _⟩ := h.1.buf.shape
  injection he with _ e2 _
  subst e2
  have h1 := SlAt.of_buf (h.1.buf.prefix_ m hm)
  rw [show (pts3 l).take (m * 3) = pts3 (l.take m) from flat_take encPt 3 encPt_three l m] at h1
  refine ⟨?_, fun p hp => (h.2 p (List.mem_of_mem_take hp)).slice⟩
  rw [List.length_take, Nat.min_eq_left hm]
  exact h1

theorem isl_pl {O Q : List Pv} (h : ∀ p ∈ Q, IsL p.ls) (hm : O.map plP = Q.map plP) : ∀ p ∈ O, IsL p.ls := fun p hp => by
  have h1 : plP p ∈ Q.map plP := hm ▸ List.mem_map_of_mem hp
  obtain ⟨x, hx, e⟩ := List.mem_map.1 h1
  have := h x hx
  rw [show x.ls = p.ls from congrArg Prod.fst e] at this
  exact this

set_option maxHeartbeats 8000000 in
set_option maxRecDepth 10000 in
theorem ledgerSettles_walk0 (v1 : Value) (l1 : List On3) (v2 : Value) (l2 : List On3) (a : Int) (ha : (Lit.int .i64 a).wf = true) (W : World) (h1 : O3Arg W v1 l1) (h2 : O3Arg W v2 l2) (_ : True) :
    Calls Tryz.prog 4 #[v1, v2, .int .i64 a] W (RetBelow W (.bool true)) := by
  have hab := bounds_i64 ha
  have P1 := Lib.hid (fun w (hb : Below W.heap.size W w) => points_any v1 l1 w (O3At.below h1.1 hb))
  have P2 := Lib.hid (fun w (hb : Below W.heap.size W w) => points_any v2 l2 w (O3At.below h2.1 hb))
  obtain ⟨_, _, rfl, _⟩ := h1.1.shape
  obtain ⟨_, _, rfl, _⟩ := h2.1.shape
  clear h1 h2 ha
  go_enter Tryz.func4, Tryz.ntmps4
  go_wp2_with fail
  refine (awake25_any _).mono ?_
  rintro e w ⟨rfl, hbw⟩
  go_upto_region 4 with fail
  obtain ⟨X, hX⟩ : ∃ X, X = w.heap.size := ⟨_, rfl⟩
  obtain ⟨w1, hw1⟩ : ∃ w1, w1 = w.alloc (.cells #[.slice none 0 0, .slice none 0 0] 35) := ⟨_, rfl⟩
  have hlg : Lg w X [] [] w1 := by rw [hw1, hX]; exact Lg.start w
  have hb1 : Below w.heap.size w w1 := by rw [hw1]; exact below_alloc1 _ _
  have HL1 := Lib.hid (hlg.base hbw)
  have hbw1 := below_trans hbw hb1
  rw [← hw1, ← hX]
  clear hw1 hX hlg hb1 hbw
  go_wp2_with fail
  refine (P1.out _ hbw1).mono ?_
  rintro e w2 ⟨p1, u1, O1, rfl, ho1, hm1⟩
  have hb2 := ho1.1.below
  have hdn := done_any W X [] [] p1 O1 0 w2 (HL1.out.below hb2) ho1.at_ Tb.nil SzP.nil (isl_of hm1) (by
    have h := congrArg List.length hm1
    rw [List.length_map, List.length_map, List.length_take] at h
    omega)
  rw [hm1] at hdn
  obtain ⟨R, hR⟩ : ∃ R, R = addAll [] ((l1.take 12).map pt3) := ⟨_, rfl⟩
  have hrs : SzP R 12 := by rw [hR]; exact pts_szp l1
  have hrt : Tb R := by rw [hR]; exact (add_spec _ Tb.nil).1
  have hrm : ∀ L t, 1000 ≤ t → val R L t = none := by rw [hR]; exact addAll_times Tb.nil (fun _ _ _ => rfl) (pts_times l1)
  rw [show addAll (([] : List Rv).map plR) ((l1.take 12).map pt3) = R from hR.symm] at hdn
  have HDN := Lib.hid hdn
  have HRS := Lib.hid hrs
  have HRT := Lib.hid hrt
  have HRM := Lib.hid hrm
  obtain ⟨A1, c1, rfl, _⟩ := ho1.at_.shape
  clear hdn hrs hrt hrm hR ho1 hm1 hb2 HL1 P1
  go_wp2_with fail
  refine HDN.out.mono ?_
  rintro e w3 ⟨rfl, hk3, t3, hl3, hm3⟩
  have HL3 := Lib.hid hl3
  have HM3 := Lib.hid hm3
  clear hk3 hl3 hm3 HDN hbw1
  go_wp2_with fail
  refine (P2.out _ HL3.out.bel).mono ?_
  rintro e w4 ⟨p2, u2, O, rfl, ho2, hm2⟩
  have HL4 := Lib.hid (HL3.out.below ho2.1.below)
  have HO := Lib.hid (ho2.after HL3.out.bel)
  have HIS := Lib.hid (isl_of hm2)
  have hOl : O.length ≤ 12 := by
    have h := congrArg List.length hm2
    rw [List.length_map, List.length_map, List.length_take] at h
    omega
  obtain ⟨A2, c2, rfl, hOc, hcm⟩ := ho2.at_.shape
  unfold maxLen at hcm
  clear ho2 hm2 HL3 P2
  go_wp2_with fail
  go_loopw [12, 13, 36] (fun t _ i wr => ∃ k : Nat, k ≤ O.length ∧ i = .int .i64 k ∧ t = .int .i64 (1000 + (k : Int)) ∧ Hid (OwnP W wr (.slice A2 O.length c2) (tmTo k O)) ∧ Hid (Lg W X t3 [] wr)) (fun _ _ i _ => O.length - (intOf i).toNat)
  case atStart => exact ⟨0, Nat.zero_le _, rfl, rfl, Lib.hid (by rw [tmTo_zero]; exact HO.out), HL4⟩
  case round =>
    obtain ⟨k, hk, rfl, rfl, HOW, HLG⟩ := hrel
    clear HO HL4
    by_cases hgo : k < O.length
    · obtain ⟨p, hx⟩ : ∃ p, O[k]? = some p := ⟨_, List.getElem?_eq_getElem hgo⟩
      have hx2 : (tmTo k O)[k]? = some p := by rw [tmTo_get, hx]; simp
      obtain ⟨b, o, rfl, _⟩ := HOW.out.at_.at_ hx2
      have hst := HOW.out.setTime hx2 (1000 + (k : Int) + 1)
      have e1 : (tmTo k O).set k ⟨p.ls, p.la, p.lc, (1000 + (k : Int) + 1, p.s.2)⟩ = tmTo (k + 1) O := by
        rw [← tmTo_succ hx]
        unfold tmAt
        rw [show 1000 + (k : Int) + 1 = 1001 + (k : Int) by omega]
      rw [e1] at hst
      have HS := Lib.hid hst
      have HLK := Lib.hid (HLG.out.ke0 hst.2 hst.1.1.below)
      have hbu := HOW.out.1.buf
      rw [tmTo_len] at hbu
      have hce := hbu.cellN (j := k * 3 + 1) (by omega)
      have hcx : (pts3 (tmTo k O))[k * 3 + 1]? = some (.int .i64 p.s.1) := flat_get encPt 3 encPt_three (tmTo k O) k p hx2 1 (by decide)
      rw [hcx, ← Nat.add_assoc] at hce
      obtain ⟨g0, g1⟩ := hce
      have hki : (k : Int) < (O.length : Int) := by omega
      clear hst e1 hbu hcx hx hx2 HOW HLG
      go_wp2_with fail
      go_roundw
      case rel => exact ⟨k + 1, by omega, by go_num, by go_num, Lib.hid HS.out.1, HLK⟩
      case measure => simp [intOf]; omega
    · obtain rfl : k = O.length := by omega
      obtain ⟨Q, hQ⟩ : ∃ Q, Q = tmTo O.length O := ⟨_, rfl⟩
      have hQl : Q.length = O.length := by rw [hQ]; exact tmTo_len _ _
      have hQr : (Q.map plP).Pairwise (fun a b => a.2.1 < b.2.1) := by rw [hQ]; exact tmTo_rise O
      have hQt : ∀ p ∈ Q.map plP, 1000 < p.2.1 := by rw [hQ]; exact tmTo_late O
      have hQi : ∀ p ∈ Q, IsL p.ls := by rw [hQ]; exact tmTo_isl HIS.out _
      rw [← hQ] at HOW
      have HQL := Lib.hid hQl
      have HQR := Lib.hid hQr
      have HQT := Lib.hid hQt
      have HQI := Lib.hid hQi
      have HTR := Lib.hid (tried_any W X t3 _ Q wr HLG.out (fun w' h => HOW.out.pt h) hQi (by omega))
      clear hQ hQl hQr hQt hQi HIS
      go_wp2_with fail
      refine HTR.out.mono ?_
      rintro e w5 ⟨rfl, O6, htd, hm6⟩
      have HL5 := Lib.hid htd.lg
      have HO5 := Lib.hid (HOW.out.ke htd.ke htd.lg.bel (by decide) (by decide))
      have HM6 := Lib.hid hm6
      clear htd hm6 HTR HOW HLG
      go_upto_region 15 with fail
      obtain ⟨m, hm⟩ : ∃ m : Nat, (m : Int) = min (max a 0) (O.length : Int) := ⟨(min (max a 0) (O.length : Int)).toNat, by omega⟩
      have hml : m ≤ O.length := by omega
      go_cut [2] (fun s wx => s = .int .i64 m ∧ w5 = wx)
      case first =>
        go_wp2_with fail
        go_meet
        case rel => exact ⟨by rw [hm], rfl⟩
      case rest =>
        obtain ⟨rfl, rfl⟩ := hcut
        clear hm
        have HSU := Lib.hid (sure_any W X t3 O6 w5 HL5.out (by rw [HM3.out]; exact HRT.out) (by rw [HM3.out]; exact HRS.out.mono (by decide)))
        obtain ⟨fi, hfi, hfs⟩ := pt_info
        have hsl := fun (w : World) => run_slice_t (P := Tryz.prog) (a := A2) (n := O.length) (c := c2) Tryz.underlying33 hfi hfs m (by omega) w
        clear hfi hfs
        go_wp2_with fail
        refine HSU.out.mono ?_
        rintro e w6 ⟨v6, t6, rfl, hb6, ho6, hm6⟩
        have HL6 := Lib.hid (HL5.out.below hb6)
        have HQ6 := Lib.hid ((HO5.out.below hb6).first m hml)
        have HN6 := Lib.hid (ho6.after HL5.out.bel)
        have HM6b := Lib.hid (hm6.trans HM3.out)
        obtain ⟨A6, c6, rfl⟩ := ho6.shape
        clear hb6 ho6 hm6 HSU HL5 HO5
        go_wp2_with fail
        clear hsl
        go_loopw [14, 60] (fun tv i wr => ∃ (k : Nat) (N : List Rv), k ≤ m ∧ i = .int .i64 k ∧ Below w6.heap.size w6 wr ∧ Hid (OwnT W wr tv N) ∧ Hid (N.map plR = addAll R ((Q.map plP).take k))) (fun _ i _ => m - (intOf i).toNat)
        case atStart => exact ⟨0, t6, Nat.zero_le _, rfl, Below.refl _ _, HN6, HM6b⟩
        case round =>
          obtain ⟨k, N, hk, rfl, hb, HN, HM⟩ := hrel
          obtain ⟨NA, nc, rfl⟩ := HN.out.shape
          clear HN6 HM6b
          have hszN : SzP (N.map plR) 100 := by
            rw [HM.out]
            refine (HRS.out.addAll (ps := (Q.map plP).take k) fun q hq => ?_).mono (by rw [List.length_take, List.length_map]; omega)
            obtain ⟨y, hy, rfl⟩ := List.mem_map.1 (List.mem_of_mem_take hq)
            exact HQI.out y hy
          have htbN : Tb (N.map plR) := by rw [HM.out]; exact (add_spec _ HRT.out).1
          have HSN := Lib.hid hszN
          have HTN := Lib.hid htbN
          clear hszN htbN
          by_cases hgo : k < m
          · obtain ⟨p, hx⟩ : ∃ p, Q[k]? = some p := ⟨_, List.getElem?_eq_getElem (by have := HQL.out; omega)⟩
            have hx2 : (Q.take m)[k]? = some p := by rw [List.getElem?_take_of_lt hgo]; exact hx
            obtain ⟨⟨b, o⟩, he⟩ : ∃ bo : Nat × Nat, A2 = some ⟨bo.1, bo.2, none⟩ := by
              obtain ⟨b, o, e, _⟩ := (HQ6.out.below hb).at_ hx2
              exact ⟨(b, o), e⟩
            subst he
            obtain ⟨L, la, lc, s⟩ := p
            obtain ⟨a0, a1, a2, hla⟩ := (HQ6.out.below hb).at2 hx2
            dsimp only at a0 a1 a2
            have hla : PsAt wr (.slice la L.length lc) L := hla
            have hil : IsL L := HQI.out _ (List.mem_of_getElem? hx)
            have hnext : addR (N.map plR) L s = addAll R ((Q.map plP).take (k + 1)) := by
              rw [List.take_add_one, List.getElem?_map, hx, addAll_append, ← HM.out]; rfl
            obtain ⟨wb, hwb⟩ : ∃ wb, wb = wr.alloc (.cells #[.slice la L.length lc, .int .i64 s.1, .int .u64 (s.2 : Nat)] 46) := ⟨_, rfl⟩
            have hb2 : Below wr.heap.size wr wb := by rw [hwb]; exact below_alloc1 _ _
            have hY : Blk wb wr.heap.size 46 #[.slice la L.length lc, .int .i64 s.1, .int .u64 (s.2 : Nat)] := by rw [hwb]; exact Blk.new _ _ _
            obtain ⟨k0, k1, k2⟩ := hY.c3
            have hor := one_row wb L s la lc (PsAt.below hla hb2)
            have hbR := below_trans (below_alloc1 wb (.cells #[.int .i64 s.1, .int .u64 (s.2 : Nat)] 42)) (below_alloc1 (wb.alloc (.cells #[.int .i64 s.1, .int .u64 (s.2 : Nat)] 42)) (.cells #[.slice la L.length lc, .slice (some ⟨wb.heap.size, 0, none⟩) 1 1] 50))
            have hON := (HN.out.below hb2).below hbR
            have htw := tables_ow W 23 [.slice NA N.length nc, .slice (some ⟨wb.heap.size + 1, 0, none⟩) 1 1] [N, [⟨L, [s], la, lc, some ⟨wb.heap.size, 0, none⟩, 1⟩]] 2 100 100 (addAll R ((Q.map plP).take (k + 1))) _ hON.1.below rfl rfl (by decide) (fun i t ht => by
              rcases i with _ | _ | i
              · obtain rfl : N = t := by simpa using ht
                exact ⟨_, rfl, hON.tb⟩
              · obtain rfl : [(⟨L, [s], la, lc, some ⟨wb.heap.size, 0, none⟩, 1⟩ : Rv)] = t := by simpa using ht
                exact ⟨_, rfl, hor⟩
              · simp at ht) (all2 HSN.out.szd (by
                refine ⟨by simp, fun y hy => ?_⟩
                obtain rfl := List.mem_singleton.1 hy
                exact ⟨hil.len, by simp⟩)) (all2 HTN.out.rls (List.pairwise_singleton _ _)) (fun S hS => by
                  have h := hS
                  unfold plT at h
                  simp only [List.map_cons, List.map_nil] at h
                  exact (tabs_point HTN.out h).trans hnext) (by decide) (by decide)
            rw [al_size, al_size] at htw
            have HTW := Lib.hid htw
            have HBR := Lib.hid (below_trans (below_trans hb hb2) (below_trans hbR (below_alloc1 _ (.cells [Value.slice NA N.length nc, .slice (some ⟨wb.heap.size + 1, 0, none⟩) 1 1].toArray 23))))
            have hki : (k : Int) < (m : Int) := by omega
            clear hla hil hnext hx hx2 hY hor hbR hON htw HN HM HSN HTN hb2
            go_upto_region 20 with fail
            rw [← hwb]
            obtain ⟨Y, hYe⟩ : ∃ Y, Y = wr.heap.size := ⟨_, rfl⟩
            rw [← hYe] at k0 k1 k2 ⊢
            clear hwb hYe a0 a1 a2 hb
            go_wp2_with fail
            refine HTW.out.mono ?_
            rintro e w9 ⟨v9, N9, rfl, hb9, ho9, hm9⟩
            have hb10 := below_trans HBR.out hb9
            have HN9 := Lib.hid ho9
            have HM9 := Lib.hid hm9
            clear ho9 hm9 hb9 HTW HBR k0 k1 k2
            go_wp2_with fail
            go_roundw
            case rel => exact ⟨k + 1, N9, by omega, by go_num, hb10, HN9, HM9⟩
            case measure => simp [intOf]; omega
          · obtain rfl : k = m := by omega
            have HL7 := Lib.hid (HL6.out.below hb)
            have HSU := Lib.hid (sure_any W X t3 O6 wr HL7.out (by rw [HM3.out]; exact HRT.out) (by rw [HM3.out]; exact HRS.out.mono (by decide)))
            clear HQ6 HL6 hb hgo
            go_wp2_with fail
            refine HSU.out.mono ?_
            rintro e w7 ⟨v7, t7, rfl, hb7, ho7, hm7⟩
            have HL8 := Lib.hid (HL7.out.below hb7)
            have HN8 := Lib.hid (HN.out.below hb7)
            have hm7 := hm7.trans HM3.out
            obtain ⟨A7, c7, rfl⟩ := ho7.shape
            clear hb7 ho7 HSU HL7 HN
            go_upto_if 77 with fail
            go_cut [14] (fun s wx => s = .slice NA N.length nc ∧ Hid (Lg W X t3 O6 wx) ∧ Hid (OwnT W wx (.slice NA N.length nc) N))
            case first =>
              rcases t7 with _ | ⟨x7, t7⟩
              · go_wp2_with fail
                go_meet
                case rel => exact ⟨rfl, HL8, HN8⟩
              · have hpos : (0 : Int) < ((x7 :: t7).length : Int) := by rw [List.length_cons]; omega
                have hsrc := fun o => ((HN8.out.1.then_below (below_alloc1 w7 o)).buf).src (P := Tryz.prog) mrow_ty.slice (rcs_oneT N)
                have HSRC := Lib.hid hsrc
                have hNl : N.length ≤ 100 := by have := HSN.out.1; rwa [List.length_map] at this
                have hn0 := NBuf.lit0 (Below.refl w7.heap.size w7) 50 2
                have HN0 := Lib.hid hn0
                clear hsrc hn0
                go_upto_region 24 with (at_builtin; refine wpList_append_el rfl (.tmp 78) (.tmp 79) 23 23 rfl mrow_ty rfl HN0.out.buf rfl (HSRC.out _) (by simp only [maxLen]; omega) (by omega) ?_; intro v8 w8 hb8 ha8 hg8; have HB8 := Lib.hid (HN0.out.step hb8 ha8 hg8); clear hb8 ha8 hg8)
                have HB8b : Hid (NBuf w7 w8 50 2 v8 N.length (rcs N)) := Lib.hid (by have h := HB8.out; rw [Nat.zero_add, List.nil_append] at h; exact h)
                obtain ⟨bA, bc, rfl, _⟩ := HB8b.out.buf.shape
                have HSU := Lib.hid (sure_any W X t3 O6 w8 (HL8.out.below HB8b.out.below) (by rw [HM3.out]; exact HRT.out) (by rw [HM3.out]; exact HRS.out.mono (by decide)))
                have hx7 : plR x7 :: t7.map plR = R := hm7
                clear HB8 HN0 HSRC hm7
                go_wp2_with fail
                refine HSU.out.mono ?_
                rintro e w9 ⟨v9, t9, rfl, hb9, ho9, hm9⟩
                have hm9 := hm9.trans HM3.out
                rcases t9 with _ | ⟨y, t9⟩
                · rw [← hx7] at hm9; cases hm9
                have hRe : R = plR y :: t9.map plR := hm9.symm
                obtain ⟨L0, S0, ya, yc, yb, yd⟩ := y
                have hy0 : TbAt w9 v9 (⟨L0, S0, ya, yc, yb, yd⟩ :: t9) := ho9.tb
                obtain ⟨A9, c9, rfl, _⟩ := hy0.shape
                obtain ⟨b9, o9, rfl, g0, g1, _⟩ := hy0.at_ (i := 0) rfl
                rw [Nat.zero_mul, Nat.add_zero] at g0 g1
                have HYL := Lib.hid ((ho9.2 _ (List.mem_cons_self ..)).1)
                have HRE := Lib.hid hRe
                have HB9 := Lib.hid (HB8b.out.then_below hb9)
                have hp9 : (0 : Int) < (((⟨L0, S0, ya, yc, yb, yd⟩ : Rv) :: t9).length : Int) := by rw [List.length_cons]; omega
                clear hx7 hm9 hRe hy0 hb9 ho9 HSU HB8b
                go_upto_region 25 with fail
                obtain ⟨w10, hw10⟩ : ∃ w10, w10 = w9.alloc (.cells #[.slice ya L0.length yc, .slice yb S0.length yd] 50) := ⟨_, rfl⟩
                obtain ⟨M, hM⟩ : ∃ M, M = w9.heap.size := ⟨_, rfl⟩
                have hb10 : Below w9.heap.size w9 w10 := by rw [hw10]; exact below_alloc1 _ _
                have HMU : Hid (Blk w10 M 50 #[.slice ya L0.length yc, .slice yb S0.length yd]) := Lib.hid (by rw [hw10, hM]; exact Blk.new _ _ _)
                have HYL2 := Lib.hid (HYL.out.then_below hb10)
                have HB10 := Lib.hid (HB9.out.then_below hb10)
                have HOM : Hid (∀ q, (Value.slice bA N.length bc).ownBlock = some q → 0 < N.length → q ≠ M) := Lib.hid (fun q hq h0 => by
                  have := HB9.out.lt h0 q hq
                  omega)
                rw [← hw10, ← hM]
                clear hw10 hM hb10 HB9 HYL g0 g1
                obtain ⟨si, hsi, hss⟩ := sm_info
                have hsl := fun (a : Option Addr) (n c : Nat) (h1 : 1 ≤ n) (h2 : n ≤ c) (w : World) => run_slice_f (P := Tryz.prog) (a := a) (n := n) (c := c) Tryz.underlying48 hsi hss 1 h1 h2 w
                have HSL := Lib.hid hsl
                clear hsl hsi hss
                have hil0 : IsL L0 := by
                  have := HRS.out.2 (plR ⟨L0, S0, ya, yc, yb, yd⟩) (by rw [HRE.out]; exact List.mem_cons_self ..)
                  exact this.1
                have HIL0 := Lib.hid hil0
                clear hil0
                go_wp2_with fail
                go_loopw [19, 86] (fun _ i wr => ∃ (q : Nat), q ≤ N.length ∧ i = .int .i64 q ∧ Hid (NBuf w7 wr 50 2 (.slice bA N.length bc) N.length (rcs (lessV L0 q N))) ∧ Hid (Blk wr M 50 #[.slice ya L0.length yc, .slice yb S0.length yd]) ∧ Hid (Buf wr 84 2 (.slice ya L0.length yc) L0.length (pcs L0))) (fun _ i _ => N.length - (intOf i).toNat)
                case atStart => exact ⟨0, Nat.zero_le _, rfl, Lib.hid (by rw [lessV_zero]; exact HB10.out), HMU, Lib.hid HYL2.out.buf⟩
                case round =>
                  obtain ⟨q, hq, rfl, HBQ, HMQ, HYQ⟩ := hrel
                  clear HB10 HMU HYL2
                  by_cases hgo : q < N.length
                  · obtain ⟨x, hx⟩ : ∃ x, N[q]? = some x := ⟨_, List.getElem?_eq_getElem hgo⟩
                    have hxl : (lessV L0 q N)[q]? = some x := by rw [lessV_get, hx]; simp
                    obtain ⟨b, o, rfl, hbl⟩ := HBQ.out.buf.some_at (by omega)
                    have hce := HBQ.out.buf.cellN (j := q * 2) (by omega)
                    have hcx : (rcs (lessV L0 q N))[q * 2]? = some (.slice x.la x.ls.length x.lc) := flat_get encR 2 encR_two (lessV L0 q N) q x hxl 0 (by decide)
                    rw [hcx] at hce
                    have hcf := HBQ.out.buf.cellN (j := q * 2 + 1) (by omega)
                    have hcy : (rcs (lessV L0 q N))[q * 2 + 1]? = some (.slice x.sa x.ss.length x.sc) := flat_get encR 2 encR_two (lessV L0 q N) q x hxl 1 (by decide)
                    have hcf := hcf
                    have hce0 := hce.1
                    have hrx := (HN8.out.tb.below HBQ.out.below).2 x (List.mem_of_getElem? hx)
                    have hixl : IsL x.ls := (HSN.out.2 (plR x) (List.mem_map_of_mem (List.mem_of_getElem? hx))).1
                    have hxne : 1 ≤ x.ss.length := by
                      have := HTN.out.ne (plR x) (List.mem_map_of_mem (List.mem_of_getElem? hx))
                      exact List.length_pos_iff.2 this
                    have hsc : x.ss.length ≤ x.sc := by
                      obtain ⟨_, _, he, h, _⟩ := hrx.2.shape
                      injection he with _ _ e3
                      subst e3
                      exact h
                    have HK1 := Lib.hid (fun wx (hb : Below wr.heap.size wr wx) => key_any (.slice x.la x.ls.length x.lc) x.ls wx (hrx.1.below hb) (by have := hixl.len; omega) (fun p hp => by have := hixl.pairs p hp; omega))
                    have HK0 := Lib.hid (fun wx (hb : Below wr.heap.size wr wx) => key_any (.slice ya L0.length yc) L0 wx (SlAt.of_buf (HYQ.out.below hb)) (by have := HIL0.out.len; omega) (fun p hp => by have := HIL0.out.pairs p hp; omega))
                    have hkk := hixl.key_eq HIL0.out
                    obtain ⟨K1, hK1⟩ : ∃ K, K = key x.ls := ⟨_, rfl⟩
                    obtain ⟨K0, hK0⟩ : ∃ K, K = key L0 := ⟨_, rfl⟩
                    rw [← hK1] at HK1 hkk
                    rw [← hK0] at HK0 hkk
                    have HKK := Lib.hid hkk
                    have HCX := Lib.hid hcx
                    have HCY := Lib.hid hcy
                    have HX := Lib.hid hx
                    have HCF := Lib.hid hcf
                    have HXN := Lib.hid (And.intro hxne hsc)
                    have hqi : (q : Int) < (N.length : Int) := by omega
                    have hqi0 : (0 : Int) ≤ (q : Int) := by omega
                    clear hxl hcx hcy hrx hixl hkk hK1 hK0 hx hcf hce hxne hsc
                    go_upto_region 28 with fail
                    obtain ⟨bK, hbK⟩ : ∃ b, b = (K1 == K0) := ⟨_, rfl⟩
                    have hbK2 := hbK.symm
                    have HBK := Lib.hid hbK
                    clear hbK
                    refine wp_region_facts [(4, (isV (.slice x.la x.ls.length x.lc), noFact)), (5, (isV (.string (bs K1)), noFact)), (7, (isV (.slice ya L0.length yc), noFact)), (8, (isV (.string (bs K0)), noFact))] (by kernel_rfl) 134 (by kernel_rfl) rfl ?_ ?_ ?_
                    · apply lookup_ne
                      simp only [List.forall_mem_cons, List.not_mem_nil, false_imp_iff, implies_true, and_true]
                      exact ⟨⟨_, rfl⟩, ⟨_, rfl⟩, ⟨_, rfl⟩, ⟨_, rfl⟩⟩
                    · apply lookup_st
                      simp only [List.forall_mem_cons, List.not_mem_nil, false_imp_iff, implies_true, and_true]
                      refine ⟨?_, ?_, ?_, ?_⟩
                      · exact fun _ _ _ _ _ => trivial
                      · exact fun _ _ _ _ _ => trivial
                      · exact fun _ _ _ _ _ => trivial
                      · exact fun _ _ _ _ _ => trivial
                    repeat (first
                      | (refine Chain.step (v := ?_) (a' := ?_) rfl rfl rfl ?_ ?_ ?_
                         rotate_left 2
                         focus (intro w; go_simp; try with_reducible rfl)
                         focus (simp only [Act.put, List.setIfInBounds_toArray, List.set_cons_succ, List.set_cons_zero]; try rfl))
                      | (refine Chain.skip (a' := ?_) rfl rfl rfl ?_ ?_
                         rotate_left 1
                         focus (simp only [Act.put, List.setIfInBounds_toArray, List.set_cons_succ, List.set_cons_zero]; try rfl)))
                    refine Chain.call' (a' := ?_) _ rfl rfl rfl rfl (fun wx hw hF => ?_) ?_ ?_
                    rotate_left 1
                    focus
                      have g0 := ((HBQ.out.then_below hw).buf.cellN (j := q * 2) (by omega)).1
                      rw [HCX.out] at g0
                      go_simp; first | exact ⟨rfl, Below.refl _ _⟩ | exact Below.refl _ _
                    focus (simp only [Act.put, List.setIfInBounds_toArray, List.set_cons_succ, List.set_cons_zero]; try rfl)
                    repeat (first
                      | (refine Chain.step (v := ?_) (a' := ?_) rfl rfl rfl ?_ ?_ ?_
                         rotate_left 2
                         focus (intro w; go_simp; try with_reducible rfl)
                         focus (simp only [Act.put, List.setIfInBounds_toArray, List.set_cons_succ, List.set_cons_zero]; try rfl))
                      | (refine Chain.skip (a' := ?_) rfl rfl rfl ?_ ?_
                         rotate_left 1
                         focus (simp only [Act.put, List.setIfInBounds_toArray, List.set_cons_succ, List.set_cons_zero]; try rfl)))
                    refine Chain.call' (a' := ?_) _ rfl rfl rfl rfl (fun wx hw hF => ?_) ?_ ?_
                    rotate_left 1
                    focus
                      go_simp; (with_reducible refine (HK1.out _ hw).mono ?_); exact (fun e w' ⟨h1, h2⟩ => by subst h1; exact ⟨rfl, h2⟩)
                    focus (simp only [Act.put, List.setIfInBounds_toArray, List.set_cons_succ, List.set_cons_zero]; try rfl)
                    repeat (first
                      | (refine Chain.step (v := ?_) (a' := ?_) rfl rfl rfl ?_ ?_ ?_
                         rotate_left 2
                         focus (intro w; go_simp; try with_reducible rfl)
                         focus (simp only [Act.put, List.setIfInBounds_toArray, List.set_cons_succ, List.set_cons_zero]; try rfl))
                      | (refine Chain.skip (a' := ?_) rfl rfl rfl ?_ ?_
                         rotate_left 1
                         focus (simp only [Act.put, List.setIfInBounds_toArray, List.set_cons_succ, List.set_cons_zero]; try rfl)))
                    refine Chain.call' (a' := ?_) _ rfl rfl rfl rfl (fun wx hw hF => ?_) ?_ ?_
                    rotate_left 1
                    focus
                      obtain ⟨g0, g1⟩ := Blk.c2 (HMQ.out.below hw); go_simp; first | exact ⟨rfl, Below.refl _ _⟩ | exact Below.refl _ _
                    focus (simp only [Act.put, List.setIfInBounds_toArray, List.set_cons_succ, List.set_cons_zero]; try rfl)
                    repeat (first
                      | (refine Chain.step (v := ?_) (a' := ?_) rfl rfl rfl ?_ ?_ ?_
                         rotate_left 2
                         focus (intro w; go_simp; try with_reducible rfl)
                         focus (simp only [Act.put, List.setIfInBounds_toArray, List.set_cons_succ, List.set_cons_zero]; try rfl))
                      | (refine Chain.skip (a' := ?_) rfl rfl rfl ?_ ?_
                         rotate_left 1
                         focus (simp only [Act.put, List.setIfInBounds_toArray, List.set_cons_succ, List.set_cons_zero]; try rfl)))
                    refine Chain.call' (a' := ?_) _ rfl rfl rfl rfl (fun wx hw hF => ?_) ?_ ?_
                    rotate_left 1
                    focus
                      go_simp; (with_reducible refine (HK0.out _ hw).mono ?_); exact (fun e w' ⟨h1, h2⟩ => by subst h1; exact ⟨rfl, h2⟩)
                    focus (simp only [Act.put, List.setIfInBounds_toArray, List.set_cons_succ, List.set_cons_zero]; try rfl)
                    repeat (first
                      | (refine Chain.step (v := ?_) (a' := ?_) rfl rfl rfl ?_ ?_ ?_
                         rotate_left 2
                         focus (intro w; go_simp; try with_reducible rfl)
                         focus (simp only [Act.put, List.setIfInBounds_toArray, List.set_cons_succ, List.set_cons_zero]; try rfl))
                      | (refine Chain.skip (a' := ?_) rfl rfl rfl ?_ ?_
                         rotate_left 1
                         focus (simp only [Act.put, List.setIfInBounds_toArray, List.set_cons_succ, List.set_cons_zero]; try rfl)))
                    refine Chain.end_ (fun wz hwz _ => ?_)
                    have HBZ := Lib.hid (HBQ.out.then_below hwz)
                    have HMZ := Lib.hid (HMQ.out.below hwz)
                    have HYZ := Lib.hid (HYQ.out.below hwz)
                    have hcz := HBZ.out.buf.cellN (j := q * 2 + 1) (by omega)
                    rw [HCY.out, ← Nat.add_assoc] at hcz
                    obtain ⟨z0, z1⟩ := hcz
                    have hs0 := HSL.out x.sa x.ss.length x.sc HXN.out.1 HXN.out.2
                    have hs0 : ∀ w, (Instr.slice 48 (.slice x.sa x.ss.length x.sc) (some (.int .i64 1)) none none).run Tryz.prog w = .ok (.slice (dropA x.sa x.sc 1 2) (x.ss.length - 1) (x.sc - 1)) w := hs0
                    obtain ⟨D, hD⟩ : ∃ D, D = dropA x.sa x.sc 1 2 := ⟨_, rfl⟩
                    rw [← hD] at hs0
                    have HD := Lib.hid hD
                    clear HBQ HMQ HYQ hwz HK1 HK0 hce0 hD
                    rcases bK with _ | _
                    · have hne : x.ls ≠ L0 := fun e => by
                        have := HKK.out.2 e
                        rw [beq_eq_false_iff_ne] at hbK2
                        exact hbK2 this
                      have hsame := lessV_same HX.out hne
                      rw [hsame] at HBZ
                      clear hsame
                      go_wp2_with fail
                      go_roundw
                      case rel => exact ⟨q + 1, by omega, by go_num, HBZ, HMZ, HYZ⟩
                      case measure => simp [intOf]; omega
                    · have heq : x.ls = L0 := HKK.out.1 (by rw [beq_iff_eq] at hbK2; exact hbK2)
                      have hcut : cutV L0 x = ⟨x.ls, x.ss.drop 1, x.la, x.lc, D, x.sc - 1⟩ := by
                        unfold cutV
                        rw [if_pos heq, HD.out]
                      have hxl2 : (lessV L0 q N)[q]? = some x := by rw [lessV_get, HX.out]; simp
                      have hset := rcs_set1 (lessV L0 q N) q x (cutV L0 x) hxl2 (by rw [hcut]) (by rw [hcut]) (by rw [hcut])
                      rw [lessV_succ HX.out, hcut] at hset
                      have hst := HBZ.out.buf.storeN (j := q * 2 + 1) (by omega) (.slice D (x.ss.drop 1).length (x.sc - 1))
                      rw [← hset, ← Nat.add_assoc, List.length_drop] at hst
                      have hbb : w7.heap.size ≤ b := HBZ.out.new b (by simp [Value.ownBlock])
                      have hnb : NBuf w7 (wz.setCell ⟨b, o + q * 2 + 1, none⟩ (.slice D (x.ss.length - 1) (x.sc - 1))) 50 2 (.slice (some ⟨b, o, none⟩) N.length bc) N.length (rcs (lessV L0 (q + 1) N)) := ⟨hst, HBZ.out.below.setCell (p := ⟨b, _, none⟩) hbb _, HBZ.out.new⟩
                      have hke : Ke (fun T => T = 50) wz (wz.setCell ⟨b, o + q * 2 + 1, none⟩ (.slice D (x.ss.length - 1) (x.sc - 1))) := Ke.of_buf (Ts := fun T => T = 50) HBZ.out.buf (by omega) rfl _ _
                      have HNB := Lib.hid hnb
                      have HMB := Lib.hid (HMZ.out.other (b := b) (fun e => HOM.out b (by simp [Value.ownBlock]) (by omega) e.symm) (o + q * 2 + 1) (.slice D (x.ss.length - 1) (x.sc - 1)))
                      have HYB := Lib.hid (hke.buf HYZ.out (by decide))
                      clear heq hcut hxl2 hset hst hbb hnb hke
                      go_wp2_with fail
                      go_roundw
                      case rel => exact ⟨q + 1, by omega, by go_num, HNB, HMB, HYB⟩
                      case measure => simp [intOf]; omega
                  · obtain rfl : q = N.length := by omega
                    have hne : ∀ x ∈ N, 1 ≤ x.ss.length := fun x hx => List.length_pos_iff.2 (HTN.out.ne (plR x) (List.mem_map_of_mem hx))
                    have htl := less_tb HN8.out HBQ.out hne
                    obtain ⟨s0, ss0, hS0⟩ : ∃ s ss, S0 = s :: ss := by
                      have h0 := HRT.out.ne (plR ⟨L0, S0, ya, yc, yb, yd⟩) (by rw [HRE.out]; exact List.mem_cons_self ..)
                      rcases S0 with _ | ⟨s, ss⟩
                      · exact absurd rfl h0
                      · exact ⟨s, ss, rfl⟩
                    have hre : R = (L0, s0 :: ss0) :: t9.map plR := by rw [HRE.out, ← hS0]; rfl
                    have hpl := lessV_all L0 N
                    have hse := settle_any W X t3 O6 12 _ (lessV L0 N.length N) wr (HL8.out.below HBQ.out.below) (by rw [HM3.out]; exact HRT.out) (by rw [HM3.out]; exact HRS.out) (isl_pl HQI.out HM6.out) (by
                      have := congrArg List.length HM6.out
                      rw [List.length_map, List.length_map] at this
                      have := HQL.out
                      omega) htl (by rw [hpl]; exact less_szp L0 HSN.out) 5 (by rw [hpl, HM3.out]; exact (settle_less HRT.out hre HM.out (fun p hp => HQT.out p (List.mem_of_mem_take hp)) HRM.out).symm) (fun h => by cases h)
                    have HSE := Lib.hid hse
                    have HBB := Lib.hid HBQ.out.below
                    clear hne htl hpl hse hS0 hre HBQ HMQ HYQ
                    go_wp2_with fail
                    refine HSE.out.mono ?_
                    rintro e w13 ⟨rfl, hr⟩
                    rcases hr with ⟨_, hb13⟩ | ⟨h, _⟩
                    rotate_left 1
                    · cases h
                    have hbf := below_trans HBB.out hb13
                    clear HSE
                    go_wp2_with fail
                    go_meet
                    case rel => exact ⟨rfl, Lib.hid (HL8.out.below hbf), Lib.hid (HN8.out.below hbf)⟩
            case rest =>
              obtain ⟨rfl, HL9, HN9⟩ := hcut
              clear HL8 HN8 hm7
              have hml6 : O6.map plP = (Q.map plP).take k ++ (Q.map plP).drop k := by rw [HM6.out, List.take_append_drop]
              have hz : settleP R (N.map plR) (O6.map plP) = 0 := by
                rw [hml6, HM.out]
                exact settle_now HRT.out HRM.out (by rw [List.take_append_drop]; exact HQR.out) (by rw [List.take_append_drop]; exact HQT.out)
              have hse := settle_any W X t3 O6 12 _ N wc HL9.out (by rw [HM3.out]; exact HRT.out) (by rw [HM3.out]; exact HRS.out) (isl_pl HQI.out HM6.out) (by
                have := congrArg List.length HM6.out
                rw [List.length_map, List.length_map] at this
                have := HQL.out
                omega) HN9.out.tb HSN.out 0 (by rw [HM3.out]; exact hz.symm) (fun _ => HTN.out)
              have HSE := Lib.hid hse
              clear hml6 hz hse HM6 HM3 HL9
              go_wp2_with fail
              refine HSE.out.mono ?_
              rintro e w9 ⟨rfl, hr⟩
              rcases hr with ⟨h, _⟩ | ⟨_, hk9, n9, hl9, hm9⟩
              · exact absurd rfl h
              have HL10 := Lib.hid hl9
              have HN10 := Lib.hid (HN9.out.ke hk9 hl9.bel (by decide) (by decide) (by decide))
              have HM9 := Lib.hid hm9
              have HSU := Lib.hid (sure_any W X n9 [] w9 hl9 (by rw [hm9]; exact HTN.out) (by rw [hm9]; exact HSN.out))
              clear hk9 hl9 hm9 HSE HN9
              have hz2 := HSN.out.szd
              have HZ2 := Lib.hid hz2
              clear hz2
              go_wp2_with fail
              refine HSU.out.mono ?_
              rintro e w10 ⟨v10, t10, rfl, hb10, ho10, hm10⟩
              have hm10 := hm10.trans HM9.out
              have HL11 := Lib.hid (HL10.out.below hb10)
              have HN11 := Lib.hid (HN10.out.below hb10)
              have HTO := Lib.hid (told_at ho10.tb hm10 (by have := HSN.out; rw [← hm10] at this; exact this.szd) (by decide))
              obtain ⟨A10, c10, rfl⟩ := ho10.shape
              clear hb10 ho10 hm10 HSU HL10 HN10
              go_wp2_with fail
              refine HTO.out.mono ?_
              rintro e w11 ⟨v11, t11, rfl, hb11, h11, m11, _⟩
              have HL12 := Lib.hid (HL11.out.below hb11)
              have HN12 := Lib.hid (HN11.out.below hb11)
              have D11 := Lib.hid (And.intro h11 m11)
              obtain ⟨A11, c11, rfl, _⟩ := h11.shape
              have HTO2 := Lib.hid (told_at HN12.out.tb rfl HZ2.out (by decide))
              clear hb11 h11 m11 HTO HL11 HN11
              go_wp2_with fail
              refine HTO2.out.mono ?_
              rintro e w12 ⟨v12, t12, rfl, hb12, h12, m12, _⟩
              have HL13 := Lib.hid (HL12.out.below hb12)
              have HN13 := Lib.hid (HN12.out.below hb12)
              have HSA := Lib.hid (rsame_any _ _ _ _ _ (D11.out.1.below hb12) h12 (by rw [D11.out.2, m12]))
              obtain ⟨A12, c12, rfl, _⟩ := h12.shape
              clear hb12 h12 m12 HTO2 HL12 HN12 D11
              go_wp2_with fail
              refine HSA.out.mono ?_
              rintro e w13 ⟨rfl, hb13⟩
              have HL14 := Lib.hid (HL13.out.below hb13)
              have HN14 := Lib.hid (HN13.out.below hb13)
              have HOP := Lib.hid (open_any W X n9 [] w13 HL14.out)
              clear hb13 HSA HL13 HN13
              go_wp2_with fail
              refine HOP.out.mono ?_
              rintro e w14 ⟨rfl, hb14⟩
              have HL15 := Lib.hid (HL14.out.below hb14)
              have HN15 := Lib.hid (HN14.out.below hb14)
              have HMY := Lib.hid (may_any W X n9 [] 100 w14 HL15.out (by rw [HM9.out]; exact HTN.out) (by rw [HM9.out]; exact HSN.out) (fun p hp => by cases hp) (by decide))
              clear hb14 HOP HL14 HN14
              go_wp2_with fail
              refine HMY.out.mono ?_
              rintro e w15 ⟨v15, t15, rfl, hb15, ho15, hm15⟩
              have hm15 : t15.map plR = N.map plR := hm15.trans HM9.out
              have HN16 := Lib.hid (HN15.out.below hb15)
              have HL16 := Lib.hid (HL15.out.below hb15)
              have HTO := Lib.hid (told_at ho15.tb hm15 (by have := HSN.out; rw [← hm15] at this; exact this.szd) (by decide))
              obtain ⟨A15, c15, rfl⟩ := ho15.shape
              clear hb15 ho15 hm15 HMY HN15 HL15
              go_wp2_with fail
              refine HTO.out.mono ?_
              rintro e w16 ⟨v16, t16, rfl, hb16, h16, m16, _⟩
              have HN17 := Lib.hid (HN16.out.below hb16)
              have HL17 := Lib.hid (HL16.out.below hb16)
              have D16 := Lib.hid (And.intro h16 m16)
              obtain ⟨A16, c16, rfl, _⟩ := h16.shape
              have HTO2 := Lib.hid (told_at HN17.out.tb rfl HZ2.out (by decide))
              clear hb16 h16 m16 HTO HN16 HL16
              go_wp2_with fail
              refine HTO2.out.mono ?_
              rintro e w17 ⟨v17, t17, rfl, hb17, h17, m17, _⟩
              have HL18 := Lib.hid (HL17.out.below hb17)
              have HSA := Lib.hid (rsame_any _ _ _ _ _ (D16.out.1.below hb17) h17 (by rw [D16.out.2, m17]))
              obtain ⟨A17, c17, rfl, _⟩ := h17.shape
              clear hb17 h17 m17 HTO2 D16 HN17 HL17
              go_wp2_with fail
              refine HSA.out.mono ?_
              rintro e w18 ⟨rfl, hb18⟩
              have HB := Lib.hid (below_trans HL18.out.bel hb18)
              clear hb18 HSA HL18
              go_wp2_with fail
              go_ret
              exact ⟨rfl, HB.out⟩
set_option maxHeartbeats 8000000 in
set_option maxRecDepth 100000 in
theorem ledgerSettles_lifted (os : Os) (started : os.Started) (H : Type) (enc : TypeId × Value → H) :
    ReturnsInHanded {} Tryz.checked os 4 .any (fun w args => (Rows.ledgerSettlesSpec.pre enc Tryz.prog Tryz.f4 [] false w args ∧ laidMetH Tryz.prog [("unicode/utf8.acceptRanges", Rows.laid_unicode_utf8_acceptRanges), ("unicode/utf8.first", Rows.laid_unicode_utf8_first)] w) ∧ sizedMet enc Tryz.prog Tryz.f4 (OpenSpec.ofChange Rows.ledgerSettlesSpec) false w args)
      (Rows.ledgerSettlesSpec.post enc Tryz.prog Tryz.f4 false true false false) := by
  refine returnsInHanded_of_change_and (C := Tryz.checked) (X := fun w _ => laidMetH Tryz.prog [("unicode/utf8.acceptRanges", Rows.laid_unicode_utf8_acceptRanges), ("unicode/utf8.first", Rows.laid_unicode_utf8_first)] w) (fun _ _ _ hh h => h.of_heap hh) law_own started (by kernel_rfl) Tryz.func4
    (ChangeSpec.witness_shaped (enc := enc) (C := Tryz.checked) (os := os) (X := fun w _ => laidMetH Tryz.prog [("unicode/utf8.acceptRanges", Rows.laid_unicode_utf8_acceptRanges), ("unicode/utf8.first", Rows.laid_unicode_utf8_first)] w) false (World.laidAll Tryz.prog os [("unicode/utf8.acceptRanges", Rows.laid_unicode_utf8_acceptRanges), ("unicode/utf8.first", Rows.laid_unicode_utf8_first)]) #[.slice none 0 0, .slice none 0 0, .int .i64 0] 8 (World.laidAll_os _ _ _)
      (World.shaped_of_ZipB (by kernel_rfl) (by kernel_rfl)) (by kernel_rfl) (by kernel_rfl) (by kernel_rfl) (door_met os _)) ?_
  intro W base args ds gs before hval0 hW _ _ hL _
  have hval : ∀ (j : Nat) t v, Tryz.f4.params[j]? = some t → args[j]? = some v → Value.okWide Tryz.prog W .any base t v := hval0
  have hW' := hW
  obtain ⟨p, q, hA0, hV, rfl, _, _⟩ := hW
  have hA : DataW.TrodAll enc Tryz.prog W 0 (fun _ => true) true Tryz.f4.params.toList args.toList ds p := hA0
  rw [Tryz.params4] at hA hval
  obtain ⟨v0, vs0, d0, ds0, p0, q0, hargs, rfl, rfl, h0, r0⟩ := trodAll_cons hA
  obtain ⟨v1, vs1, d1, ds1, p1, q1, rfl, rfl, rfl, h1, r1⟩ := trodAll_cons r0
  obtain ⟨v2, vs2, d2, ds2, p2, q2, rfl, rfl, rfl, h2, r2⟩ := trodAll_cons r1
  obtain ⟨rfl, rfl, rfl⟩ := trodAll_nil r2
  obtain rfl : args = #[v0, v1, v2] := by cases args; simp_all
  obtain ⟨rfl, rfl⟩ := trodVars_none hV
  obtain ⟨a2, rfl, rfl, rfl, w2⟩ := open_int Tryz.underlying3 (hval 2 3 v2 rfl rfl) h2
  obtain ⟨ts0, hts0⟩ := open_arg14 (hval 0 22 v0 rfl rfl) h0
  obtain ⟨ts1, hts1⟩ := open_arg14 (hval 1 22 v1 rfl rfl) h1
  refine (ledgerSettles_walk0 v0 ts0 v1 ts1 a2 w2 W hts0 hts1 (of_laid hL)).mono fun e W' ⟨he, hb⟩ => ?_
  subst he
  exact ⟨_, rfl, law_post law_laid (by intro t ht; rw [Tryz.params4] at ht; simp only [List.mem_cons, List.not_mem_nil, or_false] at ht; rcases ht with rfl | rfl | rfl <;> exact ⟨by kernel_rfl, of_decide_eq_true (by kernel_rfl)⟩) rfl Tryz.underlying4 rfl rfl hW' hb⟩

theorem ledgerSettles_holds : Rows.LedgerSettlesSaid :=
  OpenClaim.holds_of_wide 4 Tryz.f4 rfl rfl rfl rfl rfl rfl rfl ⟨rfl, rfl, rfl, rfl, rfl⟩ rfl rfl rfl rfl rfl (by kernel_rfl) Tryz.func4 (by kernel_rfl)
    (of_decide_eq_true (by kernel_rfl)) (by unfold Func.isWrapper; first | (rw [if_pos (by decide +kernel)]; kernel_rfl) | (rw [if_neg (by decide +kernel)]; exact ⟨rfl, rfl⟩))
    (fun os started H enc _ => ledgerSettles_lifted os started H enc)

theorem ledgerSettles_card : Rows.LedgerSettlesCardSaid :=
  Claim7.holds_tied_plain_at .later [] [.data, .pinned] true (true, "ae9c0f3564916a8dc06049776155b9824e3dd5d61280ffbab269dfcf7e900a45") true
    ledgerSettles_holds (fun _ h => by cases h) (by kernel_rfl) (fun _ h => by cases h) ledgerSettles_row_tie rfl ⟨rfl, rfl⟩ (by kernel_rfl) rfl
    (fun f fn hf hfn => by
      obtain rfl : f = 4 := Option.some.inj ((show Tryz.prog.funcNamed "barograph/barographlaw25.LedgerSettles" = some 4 by kernel_rfl).symm.trans hf) |>.symm
      obtain rfl : fn = Tryz.f4 := (Option.some.inj (Tryz.func4.symm.trans hfn)).symm
      exact ⟨by kernel_rfl, fun j t ht => by
        rw [Tryz.params4] at ht
        rcases j with _ | j
        · obtain rfl : t = 22 := by simpa using ht.symm
          exact (show Tryz.prog.wantsStandIn 22 = false by kernel_rfl)
        rcases j with _ | j
        · obtain rfl : t = 22 := by simpa using ht.symm
          exact (show Tryz.prog.wantsStandIn 22 = false by kernel_rfl)
        rcases j with _ | j
        · obtain rfl : t = 3 := by simpa using ht.symm
          exact (show Tryz.prog.wantsStandIn 3 = false by kernel_rfl)
        simp at ht⟩)
    (by kernel_rfl)

end Go.Proofs.YtjklcojnbcemoaaGreatDoor
