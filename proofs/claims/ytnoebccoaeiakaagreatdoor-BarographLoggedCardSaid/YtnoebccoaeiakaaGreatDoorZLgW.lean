/-
  BarographLogged: the walk.
-/
import Derived.Test.YtnoebccoaeiakaaGreatDoorZWalEH
import Derived.Test.YtnoebccoaeiakaaGreatDoorZIdtA
import Derived.Test.YtnoebccoaeiakaaGreatDoorZWalV
import Derived.Test.YtnoebccoaeiakaaGreatDoorZLib16
import Derived.Test.YtnoebccoaeiakaaGreatDoorZLib24
import Derived.Deep.Cut
import Derived.Deep.CutBlock
import Derived.Test.YtnoebccoaeiakaaGreatDoorRows
import Derived.LaidMore
import Derived.Lay
import Derived.Stop.Joined
import Derived.Stop.LaidErr
import Derived.ChangeSame
import Derived.OpenShut
import Derived.Test.YtnoebccoaeiakaaGreatDoorTie
import Derived.Test.YtnoebccoaeiakaaGreatDoorCards

namespace Go.Proofs.YtnoebccoaeiakaaGreatDoor
open Go.RowKit Go.Bar Go.Bar.Wal Go.Bar.Leb Go.Bar.Frm Go.Bar.Lab Go.Bar.Xor Go.Bar.Mrg Go.Bar.Hd Go.Conc
attribute [local go_sem] Oper.semAt_some
theorem WtB.off {B : Nat} {w w' : World} {v : Value} {O : List Rv} (h : WtB w v O) (o : Off LTs B w w') : WtB w' v O :=
  ⟨o.kc.buf h.n (by unfold LTs DTs; decide), fun x hx => ⟨o.kc.buf (h.d x hx).1 (by unfold LTs DTs; decide), o.kc.buf (h.d x hx).2 (by unfold LTs DTs; decide)⟩⟩
theorem PtB.off {B : Nat} {w w' : World} {v : Value} {l : List Pv} (h : PtB w v l) (o : Off LTs B w w') : PtB w' v l :=
  ⟨o.kc.buf h.n (by unfold LTs DTs; decide), fun x hx => o.kc.buf (h.d x hx) (by unfold LTs DTs; decide)⟩
theorem law_arm {h : Go.Bar.Wal.Hd} {d : Ds} {B : Nat} (w : World) (k : DkAt w h d) (hB : h.Hi B) (hz : d.fz = Fz.none_) :
    Calls Tryz.prog 11 #[.pointer (some ⟨h.U, 0, none⟩), .int .i64 1, .bool false] w (DkT DT0 B w h { d with fz := ⟨[(max 1 0, false)], none⟩ } (.int .i64 ((0 : Nat) : Int))) := by
  have h1 := arm_any w h d B 1 false k hB (by decide)
  rw [show d.fz.arm 1 false = (0, ⟨[(max 1 0, false)], none⟩) by rw [hz]; rfl] at h1
  exact h1
theorem law_replay (l : List It) (v : Value) (w : World) (hv : Buf w 112 2 v l.length (frcs (l.map Go.Bar.Hd.encI))) (hp : PresR x0 l) (hl : l.length ≤ 80000) :
    Calls Tryz.prog 17 #[.agg #[.int .i64 20, .int .i64 200, .int .i64 50], v] w (RetRpl w cfg9 (runR x0 l).h) := hReplay_any cfg9 l v w cfg9_ok hv hp hl
theorem tb_lit (w : World) (x : Rv) (h : RAt w x) : TbAt (w.alloc (.cells (encR x).toArray 62)) (.slice (some ⟨w.heap.size, 0, none⟩) 1 1) [x] :=
  ⟨SlAt.of_buf (Buf.lit w 62 2 1 (encR x) rfl (by decide)), fun y hy => by obtain rfl := List.mem_singleton.1 hy; exact h.below (below_alloc1 w _)⟩
theorem ra_nil {w : World} {x : Rv} (h : RAt w x) : RAt w ⟨x.ls, [], x.la, x.lc, none, 0⟩ := ⟨h.1, ⟨rfl, none, 0, rfl, Nat.le_refl _, Nat.zero_le _, fun h => absurd h (by simp)⟩⟩
theorem ra_take {w : World} {x : Rv} (h : RAt w x) (n : Nat) (hn : n ≤ x.ss.length) : RAt w ⟨x.ls, x.ss.take n, x.la, x.lc, x.sa, x.sc⟩ := ⟨h.1, by
  obtain ⟨_, _, e, e1, e2⟩ := SmsAt.shape h.2
  injection e with _ _ e
  subst e
  have h1 := SlAt.take h.2 n x.sc hn (by omega) e2
  show SlAt w 2 (.slice x.sa (x.ss.take n).length x.sc) (x.ss.take n).length (smc (x.ss.take n))
  rw [List.length_take, Nat.min_eq_left hn]
  rw [show (smc x.ss).take (n * 2) = smc (x.ss.take n) from smc_take x.ss n] at h1
  exact h1⟩
def RetHn (w : World) (e : Ending) (w' : World) : Prop := ∃ p g, e = .returned (.tuple #[.pointer (some ⟨p, 0, none⟩), .int .i64 0]) ∧ Below w.heap.size w w' ∧ HdS w' p w.heap.size 0 [] g
theorem law_new (w : World) : Calls Tryz.prog 7 #[.agg #[.int .i64 20, .int .i64 200, .int .i64 50]] w (RetHn w) :=
  (hnew_any cfg9 w cfg9_ok).mono fun e w' ⟨p, g, h1, h2, h3, h4, h5, _⟩ => ⟨p, g, h1, h2, h3, h4, by rw [h5]; exact Int.le_refl _⟩

set_option maxHeartbeats 64000000 in
set_option maxRecDepth 10000 in
theorem logged_walk0 (v0 : Value) (ls : List (List On3)) (torn : Bool) (v2 : Value) (cs : List Int) (w : World) (h0 : LsArg w v0 ls) (h2 : IntsAt w v2 cs) (hE : EnvAt w) :
    Calls Tryz.prog 3 #[v0, .bool torn, v2] w (RetBelow w (.bool true)) := by
  obtain ⟨vs, hvs, hvl, hvo⟩ := h0
  obtain ⟨A0, c0, rfl, hlc0, hcm0⟩ := hvs.shape
  obtain ⟨A2, c2, rfl, hlc2, hcm2⟩ := h2.1.shape
  unfold maxLen at hcm0 hcm2
  have hEx : ∀ wx, Below w.heap.size w wx → EnvAt wx := fun wx hb => hE.below hb
  have HEX := Lib.hid hEx
  have HE4 := Lib.hid hE.four
  have HVS := Lib.hid hvs
  have HVO := Lib.hid hvo
  have HCS := Lib.hid h2.1
  have hnew := Lib.hid (fun wx => new_any wx 1048576)
  have cO1 := Lib.hid (fun wx h B (hB4 : 4 ≤ B) (kx : DkAt wx h (Ds.new 1048576)) hx (hB : h.Hi B) => open_ok wx h _ B 0 150 _ _ _ (open_new 1048576 150).1 kx hx hB hB4 (Acc.new _) (by decide) (by decide))
  have hhn := Lib.hid law_new
  clear hEx hE hvs hvo h2
  go_enter Tryz.func3, Tryz.ntmps3
  go_upto_region 4 with (first
    | (go_at_call 4; refine (live_any w).mono ?_; rintro e w1 ⟨rfl, hb1⟩))
  have hba := below_alloc1 w1 (.cells #[.int .i64 20, .int .i64 200, .int .i64 50] 26)
  have BR := Blk.new w1 #[.int .i64 20, .int .i64 200, .int .i64 50] 26
  obtain ⟨w2, hw2⟩ : ∃ w2, w2 = w1.alloc (.cells #[.int .i64 20, .int .i64 200, .int .i64 50] 26) := ⟨_, rfl⟩
  obtain ⟨M, hM⟩ : ∃ M, M = w1.heap.size := ⟨_, rfl⟩
  rw [← hw2] at hba BR ⊢
  rw [← hM] at BR ⊢
  have HB2 := Lib.hid (below_trans hb1 hba)
  have HBR := Lib.hid BR
  have HB4 := Lib.hid (Nat.le_trans HE4.out HB2.out.size)
  clear hw2 hM hba hb1 BR
  go_upto_region 6 with (first
    | (go_at_call 5; refine (hnew.out w2).mono ?_; rintro e w3 ⟨h, rfl, k3, hB, hb3⟩; have HB3 := Lib.hid (below_trans HB2.out hb3))
    | (go_at_call 6; refine (cO1.out w3 h w2.heap.size HB4.out k3 (HEX.out _ HB3.out) hB).mono ?_; rintro e w4 ⟨L, A4, c4, rfl, k4, l4, hL, o4, _⟩))
  have BR4 := HBR.out.below (hb3.trans o4.bel)
  have P := Plc.of k4 l4 hB HB4.out hL
  have HP := Lib.hid P
  have HB24 := Lib.hid (hb3.trans o4.bel)
  have KL4 := Lib.hid (And.intro k4 l4)
  obtain ⟨e0, e1, e2⟩ := Blk.c3 BR4
  clear BR4 P k3 k4 l4 hL o4 hb3 HB3 hnew cO1
  go_upto_region 7 with (first
    | (go_at_call 7; refine (hhn.out w4).mono ?_; rintro e w5 ⟨p, hg, rfl, hb5, hs5⟩))
  obtain ⟨H, hH⟩ : ∃ H, H = w4.heap.size := ⟨_, rfl⟩
  rw [← hH] at hs5 HP
  have HS5 := Lib.hid hs5
  have L5 : Hid (LgS w2.heap.size w2 w5 h L 0 [] (Ds.new 1048576) ⟨max 150 1, 1, 0, false⟩) := Lib.hid ⟨LogI.start 150, rfl, Nat.zero_le _, KL4.out.1.below hb5, KL4.out.2.below hb5, HB24.out.trans (hb5.mono HB24.out.size)⟩
  clear hs5 hH hb5 KL4 e0 e1 e2 HB24
  go_upto_region 10 with fail
  have hba6 := below_alloc1 w5 (.cells #[] 62)
  have HW6 : Hid (WtB (w5.alloc (.cells #[] 62)) (.slice (some ⟨w5.heap.size, 0, none⟩) 0 0) []) := Lib.hid ⟨Buf.lit w5 62 2 0 [] rfl (Nat.zero_le _), fun x hx => (by cases hx)⟩
  obtain ⟨w6, hw6⟩ : ∃ w6, w6 = w5.alloc (.cells #[] 62) := ⟨_, rfl⟩
  obtain ⟨W6, hW6⟩ : ∃ W6, W6 = w5.heap.size := ⟨_, rfl⟩
  rw [← hw6] at hba6 HW6 ⊢
  rw [← hW6] at HW6 ⊢
  have HS6 := Lib.hid (HS5.out.below hba6)
  have L6 := Lib.hid (L5.out.below HP.out hba6)
  have HT6 : Hid (SelR (addMs [] []) (([] : List Rv).map plR)) := Lib.hid ⟨List.Perm.nil, List.Pairwise.nil⟩
  clear hw6 hW6 hba6 HS5 L5
  go_upto_block 0 with fail
  go_cut [14] from 15 to 112 (fun wv wx => ∃ (A : List Pnt) (d2 : Ds) (R : List Row) (t : List Rv), Hid (CrI w2.heap.size w2 wx h A torn cs d2 R) ∧ Hid (WtB wx wv t) ∧ Hid (SelR (addMs [] A) (t.map plR)))
  case first =>
    go_wp2_with fail
    go_loopw [14, 15] (fun wv i wr => ∃ (k : Nat) (A : List Pnt) (d : Ds) (g : Lg) (hg : Hg) (t : List Rv), i = .int .i64 k ∧ k ≤ ls.length ∧ k ≤ 10 ∧ Hid (LgS w2.heap.size w2 wr h L k A d g) ∧ Hid (HdS wr p H k A hg) ∧ Hid (WtB wr wv t) ∧ Hid (SelR (addMs [] A) (t.map plR))) (fun _ i _ => 10 - (intOf i).toNat)
    case atStart => exact ⟨0, _, _, _, _, _, rfl, Nat.zero_le _, Nat.zero_le _, L6, HS6, HW6, HT6⟩
    case round =>
      clear HW6 HS6 L6 HT6
      obtain ⟨k, A, d, g, hg2, t, rfl, hk, hk10, HLG, HHD, HWT, HSL⟩ := hrel
      by_cases hgo : k < ls.length ∧ k < 10
      · obtain ⟨hk1, hk2⟩ := hgo
        obtain ⟨l, hki⟩ : ∃ r, ls[k]? = some r := ⟨_, List.getElem?_eq_getElem hk1⟩
        obtain ⟨u, hu, hO3, hOk⟩ := HVO.out k l hki
        have hbw : Below w.heap.size w wr := below_trans HB2.out HLG.out.bel
        obtain ⟨bb, oo, rfl, hlt, hcells⟩ := (SlAt.below HVS.out hbw).cells (by omega)
        have hcell := hcells k u hu
        obtain ⟨A1, c1, rfl, _, _⟩ := hO3.shape
        have HPT := Lib.hid (points15_any _ l wr (hO3.below hbw) hOk)
        have HOK := Lib.hid hOk
        have hci : (0 : Int) ≤ (k : Int) := by omega
        have hci2 : (k : Int) < ls.length := by omega
        clear hki hu hO3 hOk hcells hlt hbw
        go_upto_region 14 with (first
          | (go_at_call 8; refine HPT.out.mono ?_; rintro e w7 ⟨v7, A8, n8, c8, lq, rfl, hpw, hpl⟩))
        obtain ⟨A7, c7, rfl, hlc7⟩ := hpw.n.buf.shape
        have HPL := Lib.hid hpl
        have hb7 := hpw.n.below
        have PB7 := Lib.hid hpw.ptb
        have L7 := Lib.hid (HLG.out.below HP.out hb7)
        have H7 := Lib.hid (HHD.out.below hb7)
        have W7 := Lib.hid (HWT.out.below hb7)
        have hchk := Lib.hid (law_check H7.out L7.out.lg hk10 _ lq PB7.out l HOK.out hpl)
        clear hpw hpl hb7 HLG HHD HWT hcell HPT
        go_upto_region 15 with (first
          | (go_at_call 9; refine hchk.out.mono ?_; rintro e w8 ⟨hb8, (⟨rfl, hok⟩ | ⟨i, er, hi, rfl, hok⟩)⟩))
        all_goals first
          | (have hi2 : i < lq.length := by rw [List.length_map] at hi; exact hi
             obtain ⟨ie, hie1, hie2, hie3⟩ := hpoint_ty.info
             have hsl := fun W => run_slice_t (P := Tryz.prog) (a := A7) (n := lq.length) (c := c7) (t := 38) Tryz.underlying38 hie1 hie3.1 i (by omega) W
             have PX : Hid (∃ lq2, PtB w8 (.slice A7 i c7) lq2 ∧ PsI A lq2) := Lib.hid ⟨lq.take i, (PB7.out.below hb8).take i (by omega), law_some l HOK.out HPL.out hok⟩
             have hci3 : (0 : Int) ≤ (i : Int) := by omega
             clear hok hi
             go_upto_region 17 with fail
             clear hsl hie1 hie2 hie3)
          | (have PX : Hid (∃ lq2, PtB w8 (.slice A7 lq.length c7) lq2 ∧ PsI A lq2) := Lib.hid ⟨lq, PB7.out.below hb8, law_all l HOK.out HPL.out hok⟩
             clear hok
             go_upto_region 17 with fail)
        all_goals
          obtain ⟨lq2, hPB, hPS⟩ := PX.out
          have PB8 := Lib.hid hPB
          have PS := Lib.hid hPS
          have L8 := Lib.hid (L7.out.below HP.out hb8)
          have H8 := Lib.hid (H7.out.below hb8)
          have W8 := Lib.hid (W7.out.below hb8)
          have hrec := Lib.hid (law_records H8.out L8.out.lg hk10 _ lq2 PB8.out PS.out)
          clear hPB hPS PX PB7 L7 H7 W7 hb8 hchk HPL HOK
          go_upto_region 18 with (first
            | (go_at_call 10; refine hrec.out.mono ?_; rintro e w9 ⟨v9, rfl, hn9⟩))
          obtain ⟨rs, hrs⟩ : ∃ rs, rs = (its (addMs [] A) (lq2.map plP)).map Go.Bar.Hd.encI := ⟨_, rfl⟩
          rw [← hrs] at hn9
          have HRS := Lib.hid hrs
          obtain ⟨A9, c9, rfl, hlc9⟩ := hn9.buf.shape
          have HV9 := Lib.hid hn9.buf
          have hb9 := hn9.below
          have PB9 := Lib.hid (PB8.out.below hb9)
          have L9 := Lib.hid (L8.out.below HP.out hb9)
          have H9 := Lib.hid (H8.out.below hb9)
          have W9 := Lib.hid (W8.out.below hb9)
          clear hn9 hb9 PB8 L8 H8 W8 hrec hlc9 hrs
          obtain ⟨mm, hmm⟩ : ∃ mm : Int, mm = min (ls.length : Int) 10 := ⟨_, rfl⟩
          have hm1 : 1 ≤ mm ∧ mm ≤ 10 := by omega
          replace hmm := hmm.symm
          have HE9 := Lib.hid (HEX.out _ (below_trans HB2.out L9.out.bel))
          by_cases hlast : torn = true ∧ (k : Int) = mm - 1
          · obtain ⟨rfl, hl⟩ := hlast
            have hd1 : ((k : Int) == mm - 1) = true := by rw [beq_iff_eq]; exact hl
            have HLL := Lib.hid hl
            clear hl
            go_upto_region 19 with fail
            have x0c := (d_cells L9.out.kd).1
            have harm := Lib.hid (law_arm w9 L9.out.kd HP.out.hi L9.out.lg.r.z)
            have htn := Lib.hid (fun wx kx lx bx (hv : RecsAt wx (.slice A9 rs.length c9) rs) => law_torn HP.out L9.out hk2 (z := ⟨[(max 1 0, false)], none⟩) (by decide) (wx := wx) kx lx bx (HEX.out _ (below_trans HB2.out bx)) (.slice A9 rs.length c9) lq2 PS.out (by rw [← HRS.out]; exact hv) cs)
            go_upto_region 20 with (first
              | (go_at_call 11; refine harm.out.mono ?_; rintro e w10 ⟨rfl, k10, o10⟩))
            have O10 := Lib.hid ((o10.wide dt0).wide dlt)
            have L10 := L9.out.la.off (o10.wide dt0)
            have B10 := L9.out.bel.trans o10.bel
            have V10 := O10.out.kc.buf HV9.out nl_rec
            clear x0c harm o10
            go_upto_region 25 with (first
              | (go_at_call 12; refine (htn.out w10 k10 L10 B10 (SlAt.of_buf V10)).mono ?_; rintro e w11 ⟨nn, d2, R, rfl, hcr, o11⟩))
            have HCR := Lib.hid hcr
            have HWX := Lib.hid ((W9.out.off O10.out).off o11)
            clear htn k10 L10 B10 V10 O10 hcr o11 L9 H9 W9 PB9 PS HV9 HLL hd1 hmm hm1
            go_wp2_with fail
            go_meet
            exact ⟨A, d2, R, t, HCR, HWX, HSL⟩
          · rcases torn with _ | _
            all_goals
              try have hd1 : ((k : Int) == mm - 1) = false := beq_eq_false_iff_ne.2 (fun e => hlast ⟨rfl, e⟩)
              have happ := Lib.hid (law_append HP.out L9.out hk2 HE9.out (.slice A9 rs.length c9) lq2 PS.out (by rw [← HRS.out]; exact SlAt.of_buf HV9.out))
              clear hlast
              go_upto_region 23 with (first
                | (go_at_call 12; refine happ.out.mono ?_; rintro e w10 ⟨rfl, d', g', hs10, o10⟩))
              have L10 := Lib.hid hs10
              have H10 := Lib.hid (H9.out.off HP.out o10)
              have PB10 := Lib.hid (PB9.out.off o10)
              have hadd := Lib.hid (law_add HP.out H10.out L9.out.lg.ok L9.out.lg.len hk2 _ lq2 PB10.out PS.out L10.out)
              clear hs10 o10 happ L9 H9 W9 PB9 PB10 HV9 HE9 hmm hm1
              go_upto_region 24 with (first
                | (go_at_call 13; refine hadd.out.mono ?_; rintro e w11 ⟨rfl, hg3, hs11, hh11, hb11⟩))
              have L11 := Lib.hid hs11
              have H11 := Lib.hid hh11
              have hA11 : (A ++ lq2.map plP).length ≤ 100 := by have := L11.out.lg.len; omega
              have hsel := Lib.hid (law_select H11.out L11.out.lg.ok hA11)
              clear hadd hs11 hh11 hb11 L10 H10
              go_wp2_with (first
                | (go_at_call 15; refine hsel.out.mono ?_; rintro e w12 ⟨v12, t2, rfl, hrd, hsd⟩)
                | (go_at_call 14; refine (law_told hrd L11.out.lg.ok hA11 hsd).mono ?_; rintro e w13 ⟨v13, t3, rfl, hrt, hme⟩))
              rw [← hme] at hsd
              have hb13 := below_trans hrd.n.below hrt.n.below
              have L13 := Lib.hid (L11.out.below HP.out hb13)
              have H13 := Lib.hid (H11.out.below hb13)
              have W13 := Lib.hid hrt.wt
              have S13 := Lib.hid hsd
              clear hme hsd hrd hrt hb13 hsel L11 H11
              go_roundw
              case rel => exact ⟨k + 1, _, d', g', hg3, t3, by go_num, by omega, by omega, L13, H13, W13, S13⟩
              case measure => simp [intOf]; omega
      · have hend : ls.length ≤ k ∨ (k < ls.length ∧ 10 ≤ k) := by omega
        have HCR := Lib.hid (HLG.out.cr (torn := torn) hk10 cs)
        clear hgo HLG HHD
        rcases hend with hend | ⟨hend1, hend2⟩
        all_goals
          go_wp2_with fail
          go_meet
          exact ⟨A, d, _, t, HCR, HWT, HSL⟩
  case rest =>
    obtain ⟨A, d2, R, t, HCR, HWX, HSL⟩ := hcut
    clear HW6 HS6 L6 HT6
    rcases torn with _ | _
    · have hcrash := Lib.hid (law_crash HP.out.hi HCR.out A2 c2 (by omega) (fun w' hb => SlAt.below HCS.out (below_trans HB2.out hb)))
      have hopen := Lib.hid (fun wx kd hb => law_open2 HP.out.hi HB4.out HCR.out (wx := wx) kd (HEX.out _ hb))
      go_upto_region 27 with (first
        | (go_at_call 16; refine hcrash.out.mono ?_; rintro e wa ⟨rfl, ka, oa⟩; have BA := Lib.hid (below_trans HB2.out (HCR.out.bel.trans oa.bel)))
        | (go_at_call 6; refine (hopen.out wa ka BA.out).mono ?_; rintro e wb ⟨L3, A3, c3, l3, rfl, ob, hbb, hpr, hll, hrr⟩))
      have OB := Lib.hid (oa.trans ob)
      have BB := Lib.hid (HCR.out.bel.trans OB.out.bel)
      have WB := Lib.hid (HWX.out.off OB.out)
      obtain ⟨e0, e1, e2⟩ := Blk.c3 (HBR.out.below BB.out)
      obtain ⟨ps, hps, hR, hpl8⟩ := HCR.out.ex
      have HPS := Lib.hid hps
      have hrp := Lib.hid (law_replay l3 _ wb hbb hpr hll)
      rw [hrr, hR] at hrp
      have HWH := Lib.hid (fun e => hR.symm.trans (HCR.out.wh e))
      have hA9 : (A ++ ps).length ≤ 100 := by have := HCR.out.len; rw [List.length_append]; omega
      clear oa ob ka BA hcrash hopen HCR HWX hbb hpr hll hrr hps hR hpl8
      go_upto_region 28 with (first
        | (go_at_call 17; refine hrp.out.mono ?_; rintro e wc ⟨p3, H3, g3, rfl, bc, hd3, _⟩))
      have hsel := Lib.hid (law_select2 hd3 HPS.out hA9)
      clear e0 e1 e2 hrp hd3
      go_upto_region 31 with (first
        | (go_at_call 15; refine hsel.out.mono ?_; rintro e wd ⟨vd, td, rfl, hrd, hsd⟩)
        | (go_at_call 14; refine (law_told hrd HPS.out hA9 hsd).mono ?_; rintro e we ⟨ve, te, rfl, hte, hme⟩))
      rw [← hme] at hsd
      have bce := below_trans (below_trans bc hrd.n.below) hte.n.below
      have WE := Lib.hid (WB.out.below bce)
      have NE := Lib.hid hte.wt
      have BE := Lib.hid (below_trans HB2.out (BB.out.trans (bce.mono BB.out.size)))
      have HSE := Lib.hid hsd
      obtain ⟨AE, cE, rfl, hlE⟩ := hte.n.buf.shape
      obtain ⟨AW, cW, rfl, hlW⟩ := WE.out.n.shape
      clear hme hsd hrd hte bc bce hsel WB BB
      have hsm := Lib.hid (rsame_any _ _ te t we NE.out.tb WE.out.tb (by
        have h1 := HSE.out
        rw [HWH.out (by first | rfl | trivial)] at h1
        exact h1.unique HSL.out))
      go_wp2_with (first
        | (go_at_call 18; refine hsm.out.mono ?_; rintro e wf ⟨rfl, bf⟩))
      go_ret
      exact ⟨rfl, below_trans BE.out bf⟩
    · have hcrash := Lib.hid (law_crash HP.out.hi HCR.out A2 c2 (by omega) (fun w' hb => SlAt.below HCS.out (below_trans HB2.out hb)))
      have hopen := Lib.hid (fun wx kd hb => law_open2 HP.out.hi HB4.out HCR.out (wx := wx) kd (HEX.out _ hb))
      go_upto_region 27 with (first
        | (go_at_call 16; refine hcrash.out.mono ?_; rintro e wa ⟨rfl, ka, oa⟩; have BA := Lib.hid (below_trans HB2.out (HCR.out.bel.trans oa.bel)))
        | (go_at_call 6; refine (hopen.out wa ka BA.out).mono ?_; rintro e wb ⟨L3, A3, c3, l3, rfl, ob, hbb, hpr, hll, hrr⟩))
      have OB := Lib.hid (oa.trans ob)
      have BB := Lib.hid (HCR.out.bel.trans OB.out.bel)
      have WB := Lib.hid (HWX.out.off OB.out)
      obtain ⟨e0, e1, e2⟩ := Blk.c3 (HBR.out.below BB.out)
      obtain ⟨ps, hps, hR, hpl8⟩ := HCR.out.ex
      have HPS := Lib.hid hps
      have hrp := Lib.hid (law_replay l3 _ wb hbb hpr hll)
      rw [hrr, hR] at hrp
      have HWH := Lib.hid (fun e => hR.symm.trans (HCR.out.wh e))
      have hA9 : (A ++ ps).length ≤ 100 := by have := HCR.out.len; rw [List.length_append]; omega
      clear oa ob ka BA hcrash hopen HCR HWX hbb hpr hll hrr hps hR hpl8
      go_upto_region 28 with (first
        | (go_at_call 17; refine hrp.out.mono ?_; rintro e wc ⟨p3, H3, g3, rfl, bc, hd3, _⟩))
      have hsel := Lib.hid (law_select2 hd3 HPS.out hA9)
      clear e0 e1 e2 hrp hd3
      go_upto_region 31 with (first
        | (go_at_call 15; refine hsel.out.mono ?_; rintro e wd ⟨vd, td, rfl, hrd, hsd⟩)
        | (go_at_call 14; refine (law_told hrd HPS.out hA9 hsd).mono ?_; rintro e we ⟨ve, te, rfl, hte, hme⟩))
      rw [← hme] at hsd
      have bce := below_trans (below_trans bc hrd.n.below) hte.n.below
      have WE := Lib.hid (WB.out.below bce)
      have NE := Lib.hid hte.wt
      have BE := Lib.hid (below_trans HB2.out (BB.out.trans (bce.mono BB.out.size)))
      have HSE := Lib.hid hsd
      obtain ⟨AE, cE, rfl, hlE⟩ := hte.n.buf.shape
      obtain ⟨AW, cW, rfl, hlW⟩ := WE.out.n.shape
      clear hme hsd hrd hte bc bce hsel WB BB
      have HX := Lib.hid (rows_kept HPS.out HSL.out HSE.out)
      have TW := Lib.hid WE.out.tb
      have TN := Lib.hid NE.out.tb
      have HW2 := Lib.hid (Nat.le_trans hlW (show cW ≤ cW from Nat.le_refl _))
      have hcW : cW ≤ maxLen := by obtain ⟨_, _, e, _, h⟩ := TW.out.shape; injection e with _ _ e; subst e; exact h
      have hcE : cE ≤ maxLen := by obtain ⟨_, _, e, _, h⟩ := TN.out.shape; injection e with _ _ e; subst e; exact h
      unfold maxLen at hcW hcE
      clear WE NE HSE HWH HPS hA9
      go_wp2_with fail
      go_loopw [144] (fun i wr => ∃ k2 : Nat, i = .int .i64 k2 ∧ k2 ≤ t.length ∧ Hid (Below we.heap.size we wr)) (fun i _ => t.length - (intOf i).toNat)
      case atStart => exact ⟨0, rfl, Nat.zero_le _, Lib.hid (Below.refl _ _)⟩
      case round =>
        obtain ⟨k2, rfl, hk22, hb⟩ := hrel
        by_cases hgo2 : k2 < t.length
        · obtain ⟨r, hki2⟩ : ∃ r, t[k2]? = some r := ⟨_, List.getElem?_eq_getElem hgo2⟩
          obtain ⟨b, o, rfl, q0, q1, hra⟩ := (TW.out.below hb.out).at_ hki2
          have hxr := HX.out r (List.mem_of_getElem? hki2)
          obtain ⟨rl, rss, rla, rlc, rsa, rsc⟩ := r
          dsimp only at q0 q1 hxr
          have HXR := Lib.hid hxr
          have hcj : (0 : Int) ≤ (k2 : Int) := by omega
          have hcj2 : (k2 : Int) < t.length := by omega
          clear hki2 hxr
          go_upto_region 36 with fail
          have hba := below_alloc1 wr (.cells #[.slice rla rl.length rlc, .slice rsa rss.length rsc] 62)
          have BX := Blk.new wr #[.slice rla rl.length rlc, .slice rsa rss.length rsc] 62
          obtain ⟨wR, hwR⟩ : ∃ wR, wR = wr.alloc (.cells #[.slice rla rl.length rlc, .slice rsa rss.length rsc] 62) := ⟨_, rfl⟩
          obtain ⟨K, hK⟩ : ∃ K, K = wr.heap.size := ⟨_, rfl⟩
          rw [← hwR] at hba BX ⊢
          rw [← hK] at BX ⊢
          have HBX := Lib.hid BX
          have HRA := Lib.hid (hra.below hba)
          have HB5 := Lib.hid (below_trans hb.out hba)
          clear hwR hK hba BX hra hb q0 q1
          go_wp2_with fail
          go_loopw [29, 150] (fun fv j wr2 => ∃ (f : Bool) (k3 : Nat), fv = .bool f ∧ j = .int .i64 k3 ∧ k3 ≤ te.length ∧ Hid (Below wR.heap.size wR wr2) ∧ Hid (f = false → ∀ (i : Nat) (q : Rv), i < k3 → te[i]? = some q → q.ls ≠ rl)) (fun _ j _ => te.length - (intOf j).toNat)
          case atStart => exact ⟨false, 0, rfl, rfl, Nat.zero_le _, Lib.hid (Below.refl _ _), Lib.hid (fun _ i q hi => by omega)⟩
          case round =>
            obtain ⟨f, k3, rfl, rfl, hk3, hb3, hno⟩ := hrel
            by_cases hgo3 : k3 < te.length
            · obtain ⟨q, hqi⟩ : ∃ q, te[k3]? = some q := ⟨_, List.getElem?_eq_getElem hgo3⟩
              obtain ⟨b3, o3, rfl, p0, p1, hqa⟩ := (TN.out.below (below_trans HB5.out hb3.out)).at_ hqi
              have hqm := List.mem_of_getElem? hqi
              have HQI := Lib.hid hqi
              obtain ⟨ql, qss, qla, qlc, qsa, qsc⟩ := q
              dsimp only at p0 p1
              have hcl : (0 : Int) ≤ (k3 : Int) := by omega
              have hcl2 : (k3 : Int) < te.length := by omega
              clear hqi
              go_upto_region 40 with fail
              have hba := below_alloc1 wr (.cells #[.slice qla ql.length qlc, .slice qsa qss.length qsc] 62)
              have BY := Blk.new wr #[.slice qla ql.length qlc, .slice qsa qss.length qsc] 62
              obtain ⟨wS, hwS⟩ : ∃ wS, wS = wr.alloc (.cells #[.slice qla ql.length qlc, .slice qsa qss.length qsc] 62) := ⟨_, rfl⟩
              obtain ⟨K2, hK2⟩ : ∃ K2, K2 = wr.heap.size := ⟨_, rfl⟩
              rw [← hwS] at hba BY ⊢
              rw [← hK2] at BY ⊢
              have S5 := Lib.hid BY
              have R5 := Lib.hid (HBX.out.below (below_trans hb3.out hba))
              have QA := Lib.hid (hqa.below hba)
              have RA := Lib.hid (HRA.out.below (below_trans hb3.out hba))
              have HB6 := Lib.hid (below_trans hb3.out hba)
              clear hwS hK2 hba BY hqa hb3 p0 p1
              rcases f with _ | _
              · by_cases hl : ql = rl
                · have hpre := HXR.out.2 _ hqm hl
                  dsimp only at hpre
                  have hle := hpre.length_le
                  have htk : rss = qss.take rss.length := List.prefix_iff_eq_take.1 hpre
                  have HTK := Lib.hid htk
                  have HLQ := Lib.hid hl
                  have cS1 := Lib.hid (fun W a b (h1 : TbAt W a [⟨rl, [], rla, rlc, none, 0⟩]) (h2 : TbAt W b [⟨ql, [], qla, qlc, none, 0⟩]) => rsame_any a b _ _ W h1 h2 (show [((rl, []) : Row)] = [((ql, []) : Row)] from by rw [HLQ.out]))
                  have cS2 := Lib.hid (fun W a b (h1 : TbAt W a [⟨rl, rss, rla, rlc, rsa, rsc⟩]) (h2 : TbAt W b [⟨ql, qss.take rss.length, qla, qlc, qsa, qsc⟩]) => rsame_any a b _ _ W h1 h2 (show [((rl, rss) : Row)] = [((ql, qss.take rss.length) : Row)] from by rw [HLQ.out, ← HTK.out]))
                  have hd1 : decide ((rss.length : Int) ≤ (qss.length : Int)) = true := decide_eq_true (by omega)
                  have hqc : rss.length ≤ qsc := by
                    obtain ⟨_, _, e, h1, _⟩ := QA.out.2.shape
                    dsimp only at e h1
                    injection e with _ _ e
                    omega
                  clear hl hpre htk hno hqm
                  refine wp_region_facts [(3, (isV (.slice rla rl.length rlc), noFact)), (5, ((fun v => ∃ g, v = .slice (some ⟨g, 0, none⟩) 1 1), (fun v w' => TbAt w' v [⟨rl, [], rla, rlc, none, 0⟩]))), (7, (isV (.slice qla ql.length qlc), noFact)), (9, ((fun v => ∃ g, v = .slice (some ⟨g, 0, none⟩) 1 1), (fun v w' => TbAt w' v [⟨ql, [], qla, qlc, none, 0⟩]))), (10, (isV (.bool true), noFact)), (13, (isV (.slice qsa qss.length qsc), noFact)), (16, (isV (.slice rsa rss.length rsc), noFact)), (21, (isV (.agg #[.slice rla rl.length rlc, .slice rsa rss.length rsc]), noFact)), (22, ((fun v => ∃ g, v = .slice (some ⟨g, 0, none⟩) 1 1), (fun v w' => TbAt w' v [⟨rl, rss, rla, rlc, rsa, rsc⟩]))), (24, (isV (.slice qla ql.length qlc), noFact)), (26, (isV (.slice qsa qss.length qsc), noFact)), (28, (isV (.slice rsa rss.length rsc), noFact)), (32, ((fun v => ∃ g, v = .slice (some ⟨g, 0, none⟩) 1 1), (fun v w' => TbAt w' v [⟨ql, qss.take rss.length, qla, qlc, qsa, qsc⟩]))), (33, (isV (.bool true), noFact))] (by kernel_rfl) 194 (by kernel_rfl) rfl ?_ ?_ ?_
                  · apply lookup_ne
                    simp only [List.forall_mem_cons, List.not_mem_nil, false_imp_iff, implies_true, and_true]
                    exact ⟨⟨_, rfl⟩, ⟨_, 0, rfl⟩, ⟨_, rfl⟩, ⟨_, 0, rfl⟩, ⟨_, rfl⟩, ⟨_, rfl⟩, ⟨_, rfl⟩, ⟨_, rfl⟩, ⟨_, 0, rfl⟩, ⟨_, rfl⟩, ⟨_, rfl⟩, ⟨_, rfl⟩, ⟨_, 0, rfl⟩, ⟨_, rfl⟩⟩
                  · apply lookup_st
                    simp only [List.forall_mem_cons, List.not_mem_nil, false_imp_iff, implies_true, and_true]
                    refine ⟨?_, ?_, ?_, ?_, ?_, ?_, ?_, ?_, ?_, ?_, ?_, ?_, ?_, ?_⟩
                    · exact fun _ _ _ _ _ => trivial
                    · exact fun _ _ _ hb h => h.below hb
                    · exact fun _ _ _ _ _ => trivial
                    · exact fun _ _ _ hb h => h.below hb
                    · exact fun _ _ _ _ _ => trivial
                    · exact fun _ _ _ _ _ => trivial
                    · exact fun _ _ _ _ _ => trivial
                    · exact fun _ _ _ _ _ => trivial
                    · exact fun _ _ _ hb h => h.below hb
                    · exact fun _ _ _ _ _ => trivial
                    · exact fun _ _ _ _ _ => trivial
                    · exact fun _ _ _ _ _ => trivial
                    · exact fun _ _ _ hb h => h.below hb
                    · exact fun _ _ _ _ _ => trivial
                  repeat (first
                    | (refine Chain.step (v := ?_) (a' := ?_) rfl rfl rfl ?_ ?_ ?_; rotate_left 2; (focus (intro w; go_simp; try with_reducible rfl)); focus (simp only [Act.put, pqA, pqS, pqZ]; try rfl))
                    | (refine Chain.call' (i := 3) (a' := ?_) _ rfl rfl rfl rfl (fun wx hw hF => ?_) ?_ ?_; rotate_left 1; (focus (obtain ⟨g0, g1⟩ := Blk.c2 (R5.out.below hw); go_simp; first | exact ⟨rfl, rB⟩ | exact rB)); focus (simp only [Act.put, pqA, pqS, pqZ]; try rfl))
                    | (refine Chain.make (i := 5) _ _ rfl rfl rfl (fun wx hw hF => ?_) (fun v5 hv5 a' ha => ?_); (focus (go_simp); (exact ⟨ba1 _ _, tb_lit wx ⟨rl, [], rla, rlc, none, 0⟩ (ra_nil (RA.out.below hw))⟩)); obtain ⟨g5, rfl⟩ := hv5; simp only [Act.put, pqA, pqS, pqZ] at ha; subst ha)
                    | (refine Chain.call' (i := 7) (a' := ?_) _ rfl rfl rfl rfl (fun wx hw hF => ?_) ?_ ?_; rotate_left 1; (focus (obtain ⟨g0, g1⟩ := Blk.c2 (S5.out.below hw); go_simp; first | exact ⟨rfl, rB⟩ | exact rB)); focus (simp only [Act.put, pqA, pqS, pqZ]; try rfl))
                    | (refine Chain.make (i := 9) _ _ rfl rfl rfl (fun wx hw hF => ?_) (fun v9 hv9 a' ha => ?_); (focus (go_simp); (exact ⟨ba1 _ _, tb_lit wx ⟨ql, [], qla, qlc, none, 0⟩ (ra_nil (QA.out.below hw))⟩)); obtain ⟨g9, rfl⟩ := hv9; simp only [Act.put, pqA, pqS, pqZ] at ha; subst ha)
                    | (refine Chain.call' (i := 10) (a' := ?_) _ rfl rfl rfl rfl (fun wx hw hF => ?_) ?_ ?_; rotate_left 1; (focus (have f5 : TbAt wx (.slice (some ⟨g5, 0, none⟩) 1 1) [⟨rl, [], rla, rlc, none, 0⟩] := hF 5 (by kernel_rfl)); (have f9 : TbAt wx (.slice (some ⟨g9, 0, none⟩) 1 1) [⟨ql, [], qla, qlc, none, 0⟩] := hF 9 (by kernel_rfl)); (go_simp; (with_reducible refine (cS1.out wx _ _ f5 f9).mono ?_); exact (fun e w' ⟨h1, h2⟩ => by subst h1; exact ⟨rfl, h2⟩))); focus (simp only [Act.put, pqA, pqS, pqZ]; try rfl))
                    | (refine Chain.call' (i := 13) (a' := ?_) _ rfl rfl rfl rfl (fun wx hw hF => ?_) ?_ ?_; rotate_left 1; (focus (obtain ⟨g0, g1⟩ := Blk.c2 (S5.out.below hw); go_simp; first | exact ⟨rfl, rB⟩ | exact rB)); focus (simp only [Act.put, pqA, pqS, pqZ]; try rfl))
                    | (refine Chain.call' (i := 16) (a' := ?_) _ rfl rfl rfl rfl (fun wx hw hF => ?_) ?_ ?_; rotate_left 1; (focus (obtain ⟨g0, g1⟩ := Blk.c2 (R5.out.below hw); go_simp; first | exact ⟨rfl, rB⟩ | exact rB)); focus (simp only [Act.put, pqA, pqS, pqZ]; try rfl))
                    | (refine Chain.call' (i := 21) (a' := ?_) _ rfl rfl rfl rfl (fun wx hw hF => ?_) ?_ ?_; rotate_left 1; (focus (obtain ⟨g0, g1⟩ := Blk.c2 (R5.out.below hw); go_simp; first | exact ⟨rfl, rB⟩ | exact rB)); focus (simp only [Act.put, pqA, pqS, pqZ]; try rfl))
                    | (refine Chain.make (i := 22) _ _ rfl rfl rfl (fun wx hw hF => ?_) (fun v22 hv22 a' ha => ?_); (focus (go_simp); (exact ⟨ba1 _ _, tb_lit wx ⟨rl, rss, rla, rlc, rsa, rsc⟩ (RA.out.below hw)⟩)); obtain ⟨g22, rfl⟩ := hv22; simp only [Act.put, pqA, pqS, pqZ] at ha; subst ha)
                    | (refine Chain.call' (i := 24) (a' := ?_) _ rfl rfl rfl rfl (fun wx hw hF => ?_) ?_ ?_; rotate_left 1; (focus (obtain ⟨g0, g1⟩ := Blk.c2 (S5.out.below hw); go_simp; first | exact ⟨rfl, rB⟩ | exact rB)); focus (simp only [Act.put, pqA, pqS, pqZ]; try rfl))
                    | (refine Chain.call' (i := 26) (a' := ?_) _ rfl rfl rfl rfl (fun wx hw hF => ?_) ?_ ?_; rotate_left 1; (focus (obtain ⟨g0, g1⟩ := Blk.c2 (S5.out.below hw); go_simp; first | exact ⟨rfl, rB⟩ | exact rB)); focus (simp only [Act.put, pqA, pqS, pqZ]; try rfl))
                    | (refine Chain.call' (i := 28) (a' := ?_) _ rfl rfl rfl rfl (fun wx hw hF => ?_) ?_ ?_; rotate_left 1; (focus (obtain ⟨g0, g1⟩ := Blk.c2 (R5.out.below hw); go_simp; first | exact ⟨rfl, rB⟩ | exact rB)); focus (simp only [Act.put, pqA, pqS, pqZ]; try rfl))
                    | (refine Chain.make (i := 32) _ _ rfl rfl rfl (fun wx hw hF => ?_) (fun v32 hv32 a' ha => ?_); (focus (go_simp); (have hlt : (qss.take rss.length).length = rss.length := by rw [List.length_take]; omega); (have h1 := tb_lit wx ⟨ql, qss.take rss.length, qla, qlc, qsa, qsc⟩ (ra_take (QA.out.below hw) rss.length hle)); (unfold encR at h1); (simp only [hlt] at h1); (exact ⟨ba1 _ _, h1⟩)); obtain ⟨g32, rfl⟩ := hv32; simp only [Act.put, pqA, pqS, pqZ] at ha; subst ha)
                    | (refine Chain.call' (i := 33) (a' := ?_) _ rfl rfl rfl rfl (fun wx hw hF => ?_) ?_ ?_; rotate_left 1; (focus (have f22 : TbAt wx (.slice (some ⟨g22, 0, none⟩) 1 1) [⟨rl, rss, rla, rlc, rsa, rsc⟩] := hF 22 (by kernel_rfl)); (have f32 : TbAt wx (.slice (some ⟨g32, 0, none⟩) 1 1) [⟨ql, qss.take rss.length, qla, qlc, qsa, qsc⟩] := hF 32 (by kernel_rfl)); (go_simp; (with_reducible refine (cS2.out wx _ _ f22 f32).mono ?_); exact (fun e w' ⟨h1, h2⟩ => by subst h1; exact ⟨rfl, h2⟩))); focus (simp only [Act.put, pqA, pqS, pqZ]; try rfl))
                    | (refine Chain.skip (a' := ?_) rfl rfl rfl ?_ ?_; rotate_left 1; focus (simp only [Act.put, pqA, pqS, pqZ]; try rfl)))
                  refine Chain.end_ (fun wz hwz _ => ?_)
                  have HB7 := Lib.hid (below_trans HB6.out hwz)
                  clear hwz hqc hd1 cS1 cS2
                  go_wp2_with fail
                  go_roundw
                  case rel => exact ⟨true, k3 + 1, rfl, by go_num, by omega, HB7, Lib.hid (fun e => by cases e)⟩
                  case measure => simp [intOf]; omega
                · have HNE := Lib.hid (show ¬ rl = ql from fun e => hl e.symm)
                  have HNO : Hid (∀ (i : Nat) (q : Rv), i < k3 + 1 → te[i]? = some q → q.ls ≠ rl) := Lib.hid (fun i q hi hq e => by
                    rcases Nat.lt_or_ge i k3 with h1 | h1
                    · exact hno.out rfl i q h1 hq e
                    · obtain rfl : i = k3 := by omega
                      rw [HQI.out] at hq
                      injection hq with hq
                      subst hq
                      exact hl e)
                  clear hl hno hqm
                  refine wp_region_facts [(3, (isV (.slice rla rl.length rlc), noFact)), (5, ((fun v => ∃ g, v = .slice (some ⟨g, 0, none⟩) 1 1), (fun v w' => TbAt w' v [⟨rl, [], rla, rlc, none, 0⟩]))), (7, (isV (.slice qla ql.length qlc), noFact)), (9, ((fun v => ∃ g, v = .slice (some ⟨g, 0, none⟩) 1 1), (fun v w' => TbAt w' v [⟨ql, [], qla, qlc, none, 0⟩]))), (10, (isV (.bool false), noFact))] (by kernel_rfl) 194 (by kernel_rfl) rfl ?_ ?_ ?_
                  · apply lookup_ne
                    simp only [List.forall_mem_cons, List.not_mem_nil, false_imp_iff, implies_true, and_true]
                    exact ⟨⟨_, rfl⟩, ⟨_, 0, rfl⟩, ⟨_, rfl⟩, ⟨_, 0, rfl⟩, ⟨_, rfl⟩⟩
                  · apply lookup_st
                    simp only [List.forall_mem_cons, List.not_mem_nil, false_imp_iff, implies_true, and_true]
                    refine ⟨?_, ?_, ?_, ?_, ?_⟩
                    · exact fun _ _ _ _ _ => trivial
                    · exact fun _ _ _ hb h => h.below hb
                    · exact fun _ _ _ _ _ => trivial
                    · exact fun _ _ _ hb h => h.below hb
                    · exact fun _ _ _ _ _ => trivial
                  repeat (first
                    | (refine Chain.step (v := ?_) (a' := ?_) rfl rfl rfl ?_ ?_ ?_; rotate_left 2; (focus (intro w; go_simp; try with_reducible rfl)); focus (simp only [Act.put, pqA, pqS, pqZ]; try rfl))
                    | (refine Chain.call' (i := 3) (a' := ?_) _ rfl rfl rfl rfl (fun wx hw hF => ?_) ?_ ?_; rotate_left 1; (focus (obtain ⟨g0, g1⟩ := Blk.c2 (R5.out.below hw); go_simp; first | exact ⟨rfl, rB⟩ | exact rB)); focus (simp only [Act.put, pqA, pqS, pqZ]; try rfl))
                    | (refine Chain.make (i := 5) _ _ rfl rfl rfl (fun wx hw hF => ?_) (fun v5 hv5 a' ha => ?_); (focus (go_simp); (exact ⟨ba1 _ _, tb_lit wx ⟨rl, [], rla, rlc, none, 0⟩ (ra_nil (RA.out.below hw))⟩)); obtain ⟨g5, rfl⟩ := hv5; simp only [Act.put, pqA, pqS, pqZ] at ha; subst ha)
                    | (refine Chain.call' (i := 7) (a' := ?_) _ rfl rfl rfl rfl (fun wx hw hF => ?_) ?_ ?_; rotate_left 1; (focus (obtain ⟨g0, g1⟩ := Blk.c2 (S5.out.below hw); go_simp; first | exact ⟨rfl, rB⟩ | exact rB)); focus (simp only [Act.put, pqA, pqS, pqZ]; try rfl))
                    | (refine Chain.make (i := 9) _ _ rfl rfl rfl (fun wx hw hF => ?_) (fun v9 hv9 a' ha => ?_); (focus (go_simp); (exact ⟨ba1 _ _, tb_lit wx ⟨ql, [], qla, qlc, none, 0⟩ (ra_nil (QA.out.below hw))⟩)); obtain ⟨g9, rfl⟩ := hv9; simp only [Act.put, pqA, pqS, pqZ] at ha; subst ha)
                    | (refine Chain.call' (i := 10) (a' := ?_) _ rfl rfl rfl rfl (fun wx hw hF => ?_) ?_ ?_; rotate_left 1; (focus (have f5 : TbAt wx (.slice (some ⟨g5, 0, none⟩) 1 1) [⟨rl, [], rla, rlc, none, 0⟩] := hF 5 (by kernel_rfl)); (have f9 : TbAt wx (.slice (some ⟨g9, 0, none⟩) 1 1) [⟨ql, [], qla, qlc, none, 0⟩] := hF 9 (by kernel_rfl)); (go_simp; (with_reducible refine (rsameNe_any _ _ _ _ wx f5 f9 HNE.out).mono ?_); exact (fun e w' ⟨h1, h2⟩ => by subst h1; exact ⟨rfl, h2⟩))); focus (simp only [Act.put, pqA, pqS, pqZ]; try rfl))
                    | (refine Chain.skip (a' := ?_) rfl rfl rfl ?_ ?_; rotate_left 1; focus (simp only [Act.put, pqA, pqS, pqZ]; try rfl)))
                  refine Chain.end_ (fun wz hwz _ => ?_)
                  have HB7 := Lib.hid (below_trans HB6.out hwz)
                  clear hwz
                  go_wp2_with fail
                  go_roundw
                  case rel => exact ⟨false, k3 + 1, rfl, by go_num, by omega, HB7, Lib.hid (fun _ => HNO.out)⟩
                  case measure => simp [intOf]; omega
              · clear hno hqm
                refine wp_region_known [] (by kernel_rfl) 194 (by kernel_rfl) rfl ?_
                repeat (first
                  | (refine Chain.step (v := ?_) (a' := ?_) rfl rfl rfl ?_ ?_ ?_; rotate_left 2; (focus (intro w; go_simp; try with_reducible rfl)); focus (simp only [Act.put, pqA, pqS, pqZ]; try rfl))
                  | (refine Chain.skip (a' := ?_) rfl rfl rfl ?_ ?_; rotate_left 1; focus (simp only [Act.put, pqA, pqS, pqZ]; try rfl)))
                refine Chain.end_ (fun wz hwz _ => ?_)
                have HB7 := Lib.hid (below_trans HB6.out hwz)
                clear hwz
                go_wp2_with fail
                go_roundw
                case rel => exact ⟨true, k3 + 1, rfl, by go_num, by omega, HB7, Lib.hid (fun e => by cases e)⟩
                case measure => simp [intOf]; omega
            · obtain rfl : k3 = te.length := by omega
              obtain rfl : f = true := by
                rcases f with _ | _
                · exfalso
                  obtain ⟨q, hq, e⟩ := HXR.out.1
                  obtain ⟨i, hi⟩ := List.mem_iff_getElem?.1 hq
                  exact hno.out rfl i q (List.getElem?_eq_some_iff.1 hi).1 hi e
                · rfl
              have HB8 := Lib.hid (below_trans HB5.out hb3.out)
              clear hno hgo3
              go_wp2_with fail
              go_roundw
              case rel => exact ⟨k2 + 1, by go_num, by omega, HB8⟩
              case measure => simp [intOf]; omega
        · obtain rfl : k2 = t.length := by omega
          clear hgo2
          go_wp2_with fail
          go_ret
          exact ⟨rfl, below_trans BE.out hb.out⟩
end Go.Proofs.YtnoebccoaeiakaaGreatDoor

namespace Go.Proofs.YtnoebccoaeiakaaGreatDoor
open Go.RowKit Go.Bar Go.ChangeShapes Go.WideShapes Go.ChangeAt Go.Deep

set_option maxRecDepth 100000 in
theorem of_laid9 {W : World} (h : laidMetH Tryz.prog [("math/bits.deBruijn32tab", Rows.laid_math_bits_deBruijn32tab), ("math/bits.deBruijn64tab", Rows.laid_math_bits_deBruijn64tab), ("internal/strconv.uint64pow10", Rows.laid_internal_strconv_uint64pow10), ("unicode/utf8.acceptRanges", Rows.laid_unicode_utf8_acceptRanges), ("strconv.ErrRange", Rows.laid_strconv_ErrRange), ("strconv.ErrSyntax", Rows.laid_strconv_ErrSyntax), ("unicode/utf8.first", Rows.laid_unicode_utf8_first)] W) : EnvAt W := by
  rw [MakeChecks.laidMetH_plain _ _ _ (by kernel_rfl)] at h
  have h2 := h.tail.tail
  exact ⟨Lib.tabIs_of_head g_pow10 t_pow10 Tryz.underlying290 Tryz.underlying68 (by kernel_rfl) (by kernel_rfl) h2, iface_laid h2.tail.tail.tail (by kernel_rfl) t_syntax, iface_laid h2.tail.tail (by kernel_rfl) t_range⟩

theorem door_met9 (os : Os) (args : Array Value) : laidMetH Tryz.prog [("math/bits.deBruijn32tab", Rows.laid_math_bits_deBruijn32tab), ("math/bits.deBruijn64tab", Rows.laid_math_bits_deBruijn64tab), ("internal/strconv.uint64pow10", Rows.laid_internal_strconv_uint64pow10), ("unicode/utf8.acceptRanges", Rows.laid_unicode_utf8_acceptRanges), ("strconv.ErrRange", Rows.laid_strconv_ErrRange), ("strconv.ErrSyntax", Rows.laid_strconv_ErrSyntax), ("unicode/utf8.first", Rows.laid_unicode_utf8_first)] ((World.laidAll Tryz.prog os [("math/bits.deBruijn32tab", Rows.laid_math_bits_deBruijn32tab), ("math/bits.deBruijn64tab", Rows.laid_math_bits_deBruijn64tab), ("internal/strconv.uint64pow10", Rows.laid_internal_strconv_uint64pow10), ("unicode/utf8.acceptRanges", Rows.laid_unicode_utf8_acceptRanges), ("strconv.ErrRange", Rows.laid_strconv_ErrRange), ("strconv.ErrSyntax", Rows.laid_strconv_ErrSyntax), ("unicode/utf8.first", Rows.laid_unicode_utf8_first)]).forCall (fun _ _ => 0) ⟨#[], args, []⟩).memory := by
  rw [MakeChecks.laidMetH_plain _ _ _ (by kernel_rfl)]; exact laidMet_laidAll _ (by kernel_rfl) (by kernel_rfl)

end Go.Proofs.YtnoebccoaeiakaaGreatDoor

namespace Go.Proofs.YtnoebccoaeiakaaGreatDoor
open Go.RowKit Go.Bar Go.Bar.Wal Go.Bar.Leb Go.Bar.Frm Go.Bar.Mrg Go.Conc Go.ChangeShapes Go.WideShapes Go.ChangeAt Go.Deep
theorem barographLogged_walk0 (v0 : Value) (ls : List (List On3)) (torn : Bool) (v2 : Value) (cs : List Int) (w : World) (h0 : LsArg w v0 ls) (h2 : IntsAt w v2 cs) (hE : EnvAt w) :
    Calls Tryz.prog 3 #[v0, .bool torn, v2] w (RetBelow w (.bool true)) := logged_walk0 v0 ls torn v2 cs w h0 h2 hE
set_option maxHeartbeats 8000000 in
set_option maxRecDepth 100000 in
theorem barographLogged_lifted (os : Os) (started : os.Started) (H : Type) (enc : TypeId × Value → H) :
    ReturnsInHanded {} Tryz.checked os 3 .any (fun w args => (Rows.barographLoggedSpec.pre enc Tryz.prog Tryz.f3 [] false w args ∧ laidMetH Tryz.prog [("math/bits.deBruijn32tab", Rows.laid_math_bits_deBruijn32tab), ("math/bits.deBruijn64tab", Rows.laid_math_bits_deBruijn64tab), ("internal/strconv.uint64pow10", Rows.laid_internal_strconv_uint64pow10), ("unicode/utf8.acceptRanges", Rows.laid_unicode_utf8_acceptRanges), ("strconv.ErrRange", Rows.laid_strconv_ErrRange), ("strconv.ErrSyntax", Rows.laid_strconv_ErrSyntax), ("unicode/utf8.first", Rows.laid_unicode_utf8_first)] w) ∧ sizedMet enc Tryz.prog Tryz.f3 (OpenSpec.ofChange Rows.barographLoggedSpec) false w args)
      (Rows.barographLoggedSpec.post enc Tryz.prog Tryz.f3 false true false false) := by
  refine returnsInHanded_of_change_and (C := Tryz.checked) (X := fun w _ => laidMetH Tryz.prog [("math/bits.deBruijn32tab", Rows.laid_math_bits_deBruijn32tab), ("math/bits.deBruijn64tab", Rows.laid_math_bits_deBruijn64tab), ("internal/strconv.uint64pow10", Rows.laid_internal_strconv_uint64pow10), ("unicode/utf8.acceptRanges", Rows.laid_unicode_utf8_acceptRanges), ("strconv.ErrRange", Rows.laid_strconv_ErrRange), ("strconv.ErrSyntax", Rows.laid_strconv_ErrSyntax), ("unicode/utf8.first", Rows.laid_unicode_utf8_first)] w) (fun _ _ _ hh h => h.of_heap hh) law_own started (by kernel_rfl) Tryz.func3
    (ChangeSpec.witness_shaped (enc := enc) (C := Tryz.checked) (os := os) (X := fun w _ => laidMetH Tryz.prog [("math/bits.deBruijn32tab", Rows.laid_math_bits_deBruijn32tab), ("math/bits.deBruijn64tab", Rows.laid_math_bits_deBruijn64tab), ("internal/strconv.uint64pow10", Rows.laid_internal_strconv_uint64pow10), ("unicode/utf8.acceptRanges", Rows.laid_unicode_utf8_acceptRanges), ("strconv.ErrRange", Rows.laid_strconv_ErrRange), ("strconv.ErrSyntax", Rows.laid_strconv_ErrSyntax), ("unicode/utf8.first", Rows.laid_unicode_utf8_first)] w) false (World.laidAll Tryz.prog os [("math/bits.deBruijn32tab", Rows.laid_math_bits_deBruijn32tab), ("math/bits.deBruijn64tab", Rows.laid_math_bits_deBruijn64tab), ("internal/strconv.uint64pow10", Rows.laid_internal_strconv_uint64pow10), ("unicode/utf8.acceptRanges", Rows.laid_unicode_utf8_acceptRanges), ("strconv.ErrRange", Rows.laid_strconv_ErrRange), ("strconv.ErrSyntax", Rows.laid_strconv_ErrSyntax), ("unicode/utf8.first", Rows.laid_unicode_utf8_first)]) #[.slice none 0 0, .bool false, .slice none 0 0] 8 (World.laidAll_os _ _ _)
      (World.shaped_of_ZipB (by kernel_rfl) (by kernel_rfl)) (by kernel_rfl) (by kernel_rfl) (by kernel_rfl) (door_met9 os _)) ?_
  intro W base args ds gs before hval0 hW _ _ hL _
  have hval : ∀ (j : Nat) t v, Tryz.f3.params[j]? = some t → args[j]? = some v → Value.okWide Tryz.prog W .any base t v := hval0
  have hW' := hW
  obtain ⟨p, q, hA0, hV, rfl, _, _⟩ := hW
  have hA : DataW.TrodAll enc Tryz.prog W 0 (fun _ => true) true Tryz.f3.params.toList args.toList ds p := hA0
  rw [Tryz.params3] at hA hval
  obtain ⟨v0, vs0, d0, ds0, p0, q0, hargs, rfl, rfl, h0, r0⟩ := trodAll_cons hA
  obtain ⟨v1, vs1, d1, ds1, p1, q1, rfl, rfl, rfl, h1, r1⟩ := trodAll_cons r0
  obtain ⟨v2, vs2, d2, ds2, p2, q2, rfl, rfl, rfl, h2, r2⟩ := trodAll_cons r1
  obtain ⟨rfl, rfl, rfl⟩ := trodAll_nil r2
  obtain rfl : args = #[v0, v1, v2] := by cases args; simp_all
  obtain ⟨rfl, rfl⟩ := trodVars_none hV
  obtain ⟨a1, rfl, rfl, rfl⟩ := open_bool Tryz.underlying4 (hval 1 4 v1 rfl rfl) h1
  obtain ⟨ts0, hts0⟩ := open_lists14 (hval 0 22 v0 rfl rfl) h0
  obtain ⟨ts2, hts2⟩ := open_ints_ (hval 2 23 v2 rfl rfl) h2
  refine (barographLogged_walk0 v0 ts0 a1 v2 ts2 W hts0 hts2 (of_laid9 hL)).mono fun e W' ⟨he, hb⟩ => ?_
  subst he
  exact ⟨_, rfl, law_post law_laid (by intro t ht; rw [Tryz.params3] at ht; simp only [List.mem_cons, List.not_mem_nil, or_false] at ht; rcases ht with rfl | rfl | rfl <;> exact ⟨by kernel_rfl, of_decide_eq_true (by kernel_rfl)⟩) rfl Tryz.underlying4 rfl rfl hW' hb⟩

theorem barographLogged_holds : Rows.BarographLoggedSaid :=
  OpenClaim.holds_of_wide 3 Tryz.f3 rfl rfl rfl rfl rfl rfl rfl ⟨rfl, rfl, rfl, rfl, rfl⟩ rfl rfl rfl rfl rfl (by kernel_rfl) Tryz.func3 (by kernel_rfl)
    (of_decide_eq_true (by kernel_rfl)) (by unfold Func.isWrapper; first | (rw [if_pos (by decide +kernel)]; kernel_rfl) | (rw [if_neg (by decide +kernel)]; exact ⟨rfl, rfl⟩))
    (fun os started H enc _ => barographLogged_lifted os started H enc)

theorem barographLogged_card : Rows.BarographLoggedCardSaid :=
  Claim7.holds_tied_plain_at .later [] [.data, .data, .data, .data, .sentinel, .sentinel, .pinned] true (true, "2bf1ae29a5e6a69bf7898c0c4dac4fff114c2cf98c6b8ab26b2a9c7e2fddf67d") true
    barographLogged_holds (fun _ h => by cases h) (by kernel_rfl) (fun _ h => by cases h) barographLogged_row_tie rfl ⟨rfl, rfl⟩ (by kernel_rfl) rfl
    (fun f fn hf hfn => by
      obtain rfl : f = 3 := Option.some.inj ((show Tryz.prog.funcNamed "barograph/barographtop.BarographLogged" = some 3 by kernel_rfl).symm.trans hf) |>.symm
      obtain rfl : fn = Tryz.f3 := (Option.some.inj (Tryz.func3.symm.trans hfn)).symm
      exact ⟨by kernel_rfl, fun j t ht => by
        rw [Tryz.params3] at ht
        rcases j with _ | j
        · obtain rfl : t = 22 := by simpa using ht.symm
          exact (show Tryz.prog.wantsStandIn 22 = false by kernel_rfl)
        rcases j with _ | j
        · obtain rfl : t = 4 := by simpa using ht.symm
          exact (show Tryz.prog.wantsStandIn 4 = false by kernel_rfl)
        rcases j with _ | j
        · obtain rfl : t = 23 := by simpa using ht.symm
          exact (show Tryz.prog.wantsStandIn 23 = false by kernel_rfl)
        simp at ht⟩)
    (by kernel_rfl)

end Go.Proofs.YtnoebccoaeiakaaGreatDoor
