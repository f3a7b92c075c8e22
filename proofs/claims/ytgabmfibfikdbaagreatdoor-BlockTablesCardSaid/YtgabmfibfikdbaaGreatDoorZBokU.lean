/-
 Layer 16: the walk of the reference's Entries.
-/
import Derived.Test.YtgabmfibfikdbaaGreatDoorZBokC
import Derived.Test.YtgabmfibfikdbaaGreatDoorZBokV
import Derived.Test.YtgabmfibfikdbaaGreatDoorZBokS
import Derived.Test.YtgabmfibfikdbaaGreatDoorZLabT
import Derived.Deep.RegionLaw

namespace Go.Proofs.YtgabmfibfikdbaaGreatDoor
open Go.RowKit Go.Bar Go.Bar.Leb Go.Bar.Frm Go.Bar.Lab Go.Bar.Xor Go.Bar.Mrg Go.Bar.Met Go.Bar.Bok

set_option maxHeartbeats 16000000 in
set_option maxRecDepth 10000 in
theorem rentries_any (s : List UInt8) (w : World) (hs : s.length ≤ 1000000000) :
  Calls Tryz.prog 11 #[.string (bs s)] w (RetEs 114 146 w (entriesR s)) := by
 obtain ⟨kd, d, r, er, hn⟩ : ∃ k d r e, Frm.next s = ((k, d), r, e) := ⟨_, _, _, _, rfl⟩
 have hc : ∀ w, Calls Tryz.prog 39 #[.string (bs s)] w (RetBelow w (.tuple #[.agg #[.int .u8 kd.toNat, .string (bs d)], .string (bs r), .int .i64 er])) := fun w => by
  have := refNext_any s w (by omega)
  rw [hn] at this
  exact this
 have ho : only s 5 = (d, if er = 0 ∧ (r ≠ [] ∨ kd ≠ 5) then 3 else er) := by
  unfold only
  rw [hn]
 have hdl : er = 0 → d.length ≤ 1048576 := fun he => by
  have := (next_one s (by rw [hn]; exact he)).2
  rw [hn] at this
  exact this
 obtain ⟨R, hR⟩ : ∃ R, R = entriesR s := ⟨_, rfl⟩
 rw [← hR]
 have HC := Lib.hid hc
 have HR := Lib.hid hR
 have HO := Lib.hid ho
 clear hc hn hR ho
 by_cases h0 : er = 0
 ·subst h0
  have hdl := hdl rfl
  by_cases h1 : r = []
  ·subst h1
   by_cases h2 : kd = 5
   ·subst h2
    have hes : R = ensD d := by
     rw [HR.out]
     exact entriesR_ok' (by rw [HO.out]; simp)
    obtain ⟨n0, r0, e0, htm⟩ : ∃ n r e, takeMost d 10000 = (n, r, e) := ⟨_, _, _, rfl⟩
    have htc := fun w => refTakeMost_of (bs d) 10000 htm w (by rw [bs_size]; unfold maxLen; omega) (by omega) (by omega)
    have hle := (takeMost_prop d 10000 (by omega)).2.1
    rw [htm] at hle
    have hn0 : e0 = 0 → n0 ≤ 10000 := fun he => by
     have := takeMost_le d 10000 (by rw [show ((10000 : Nat) : Int) = 10000 from rfl, htm]; exact he)
     rw [show ((10000 : Nat) : Int) = 10000 from rfl, htm] at this
     exact this
    have HES := Lib.hid hes
    have HTM := Lib.hid htm
    have HTC := Lib.hid htc
    dsimp only at hle
    clear hes htm htc HO HR
    go_enter Tryz.func11, Tryz.ntmps11
    go_wp2_with fail
    refine (HC.out _).mono ?_
    rintro e w1 ⟨rfl, hb1⟩
    have HB1 := Lib.hid (below_trans hb1 (below_al w1 (.cells #[.int .u8 ((5 : UInt8).toNat : Nat), .string (bs d)] 108)))
    clear hb1 HC
    go_wp2_with fail
    refine (HTC.out _).mono ?_
    rintro e w2 ⟨rfl, q2, rfl⟩
    have HB2 := Lib.hid (below_trans HB1.out (below_draws _ q2))
    clear HB1 HTC
    by_cases he0 : e0 = 0
    rotate_left 1
    ·have hez : ((e0 : Int) == 0) = false := by rw [beq_eq_false_iff_ne]; omega
     have hRX : R = ([], e0) := by rw [HES.out]; exact ensD_bad HTM.out he0
     have HRES := Lib.hid hRX
     clear hRX hn0 HTM HES he0
     go_wp2_with fail
     go_ret2
     rw [HRES.out]
     exact RetEs.no HB2.out
    ·subst he0
     have hn0 := hn0 rfl
     have hens : ∀ (l : List En) (r' : List UInt8) (e : Nat), tEns n0 r0 [] = (l, r', e) → R = if e ≠ 0 then ([], e) else if r' ≠ [] then ([], 3) else (l, 0) := fun l r' e ht => by
      rw [HES.out]
      exact ensD_of HTM.out ht
     have HENS := Lib.hid hens
     clear hens HES HTM
     have hd0 : DEs w w w (((w1.alloc (.cells #[.int .u8 ((5 : UInt8).toNat : Nat), .string (bs d)] 108)).drewN q2).alloc (.cells #[] 114)) 114 146 (.slice (some ⟨w1.heap.size + 1, 0, none⟩) 0 0) [] := by
      have e : ((w1.alloc (.cells #[.int .u8 ((5 : UInt8).toNat : Nat), .string (bs d)] 108)).drewN q2).heap.size = w1.heap.size + 1 := by simp
      have := NBuf.lit0 HB2.out 114 5
      rw [e] at this
      exact ⟨this, Below.refl _ _, fun x hx => by cases hx⟩
     have HD0 := Lib.hid hd0
     have hr0l : r0.length ≤ 1000000000 := by omega
     clear hd0
     go_upto_region 11 with fail
     go_loopw [11, 8, 10] (fun iv dv ov wr => ∃ (k : Nat) (r' : List UInt8) (l : List Ev), iv = .int .i64 k ∧ k ≤ n0 ∧ Hid (l.length = k) ∧ dv = .string (bs r') ∧ Hid (DEs w w w wr 114 146 ov l) ∧ r'.length ≤ 1000000000 ∧
      Hid (tEns n0 r0 [] = tEns (n0 - k) r' (l.map plE))) (fun iv _ _ _ => n0 - (intOf iv).toNat)
     case atStart => exact ⟨0, r0, [], rfl, Nat.zero_le _, Lib.hid rfl, rfl, HD0, hr0l, Lib.hid rfl⟩
     case round =>
      obtain ⟨k, r', l, rfl, hk, HLK, rfl, HD, hrl, HT⟩ := hrel
      clear HD0
      have hbw := HD.out.n.below
      have HBW := Lib.hid hbw
      obtain ⟨oA, oc, rfl, hoc⟩ := HD.out.n.buf.shape
      by_cases hgo : k < n0
      rotate_left 1
      ·obtain rfl : k = n0 := by omega
       have hR := HENS.out (l.map plE) r' 0 (by rw [HT.out, Nat.sub_self]; rfl)
       by_cases hr : r' = []
       ·subst hr
        rw [if_neg (by omega), if_neg (by simp)] at hR
        have HRES := Lib.hid hR
        clear hR HT hbw
        go_wp2_with fail
        go_ret2
        rw [HRES.out]
        exact ⟨_, l, rfl, HD.out, rfl⟩
       ·rw [if_neg (by omega), if_pos hr] at hR
        have hb : r'.isEmpty = false := by cases r'; exact absurd rfl hr; rfl
        have hb2 : (r' != []) = true := by rw [bne_iff_ne]; exact hr
        have HRES := Lib.hid hR
        clear hR HT hbw hr HD
        go_wp2_with fail
        go_ret2
        rw [HRES.out]
        exact RetEs.no HBW.out
      ·obtain ⟨m, hm⟩ : ∃ m, n0 - k = m + 1 := ⟨n0 - k - 1, by omega⟩
       have hte0 := HT.out
       rw [hm] at hte0
       have htk := fun w' => rentry_any r' w' (by omega)
       obtain ⟨y, r2, e3, hte⟩ : ∃ y r e, tEn r' = (y, r, e) := ⟨_, _, _, rfl⟩
       have hle2 := tEn_le r'
       rw [hte] at hle2 htk
       dsimp only at hle2
       have htn : tEns (m + 1) r' (l.map plE) = if e3 ≠ 0 then ([], [], e3) else if Bok.early (l.map plE) y then ([], [], 3) else tEns m r2 (l.map plE ++ [y]) := by rw [tEns, hte]
       rw [← hte0] at htn
       have HTN := Lib.hid htn
       have HTK := Lib.hid htk
       have HM := Lib.hid (show n0 - (k + 1) = m by omega)
       clear hte htk htn hbw hte0 hm HT
       go_wp2_with fail
       refine (HTK.out _).mono ?_
       rintro e w3 ⟨x, rfl, hxy, hnx⟩
       dsimp only at hxy ⊢
       have hb3 := hnx.below
       have HD3 := Lib.hid (HD.out.below hb3)
       have HB3 := Lib.hid (below_trans HBW.out hb3)
       have HN3 := Lib.hid (hnx.after HBW.out)
       have HXY := Lib.hid hxy
       clear hnx hxy HTK hb3 HD
       by_cases he3 : e3 = 0
       rotate_left 1
       ·have hez : ((e3 : Int) == 0) = false := by rw [beq_eq_false_iff_ne]; omega
        have hR := HENS.out [] [] e3 (by rw [HTN.out, if_pos he3])
        rw [if_pos he3] at hR
        have HRES := Lib.hid hR
        have HBX := Lib.hid (below_trans HB3.out (below_al w3 (.cells #[.slice x.la x.ls.length x.lc, .int .i64 x.fr, .int .i64 x.n, .int .i64 x.mn, .int .i64 x.mx] 114)))
        clear hR he3 HTN
        go_wp2_with fail
        go_ret2
        rw [HRES.out]
        exact RetEs.no HBX.out
       ·subst he3
        have hlit := below_al w3 (.cells #[.slice x.la x.ls.length x.lc, .int .i64 x.fr, .int .i64 x.n, .int .i64 x.mn, .int .i64 x.mx] 114)
        have HX4 := Lib.hid (Blk.new w3 #[.slice x.la x.ls.length x.lc, .int .i64 x.fr, .int .i64 x.n, .int .i64 x.mn, .int .i64 x.mx] 114)
        have HD4 := Lib.hid (HD3.out.below hlit)
        have HN4 := Lib.hid (HN3.out.then_below hlit)
        have HB4 := Lib.hid (below_trans HB3.out hlit)
        clear hlit HD3 HN3 HB3
        go_upto_region 16 with fail
        obtain ⟨X, hX⟩ : ∃ X, X = w3.heap.size := ⟨_, rfl⟩
        obtain ⟨w4, hw4⟩ : ∃ w4, w4 = w3.alloc (.cells #[.slice x.la x.ls.length x.lc, .int .i64 x.fr, .int .i64 x.n, .int .i64 x.mn, .int .i64 x.mx] 114) := ⟨_, rfl⟩
        rw [← hX, ← hw4] at HX4
        rw [← hw4] at HD4 HN4 HB4
        rw [← hX, ← hw4]
        clear hX hw4
        have hln : l.length ≤ 10000 := by rw [HLK.out]; omega
        rcases Nat.eq_zero_or_pos k with hk0 | hk0
        ·subst hk0
         have hl0 : l = [] := List.eq_nil_of_length_eq_zero HLK.out
         subst hl0
         have HNE := Lib.hid (show ¬ Bok.early (([] : List Ev).map plE) y from early_nil y)
         rw [List.length_nil] at hoc ⊢
         refine wp_region_known [] (by kernel_rfl) 78 (by kernel_rfl) rfl ?_
         repeat (first
          | (refine Chain.step (v := ?_) (a' := ?_) rfl rfl rfl ?_ ?_ ?_; rotate_left 2; (focus (intro w; go_simp; try with_reducible rfl)); focus (simp only [Act.put, pqA, pqS, pqZ]; try rfl))
          | (refine Chain.skip (a' := ?_) rfl rfl rfl ?_ ?_; rotate_left 1; focus (simp only [Act.put, pqA, pqS, pqZ]; try rfl)))
         refine Chain.end_ (fun wz hwz _ => ?_)
         have HDD := Lib.hid (HD4.out.below hwz)
         have HNN := Lib.hid (HN4.out.then_below hwz)
         obtain ⟨x0, x1, x2, x3, x4⟩ := (HX4.out.below hwz).c5
         have hnb := HDD.out.n
         go_wp2_with (at_builtin; refine wpList_append_nlit rfl (.tmp 70) (.tmp 72) 29 rfl rentry_ty rfl hnb rfl (by simp) rfl (by simp [Value.oneCell']) (by simp only [maxLen]; omega) (by omega) ?_; intro v6 w6 hn6 ha6; have HAP := Lib.hid ha6; clear ha6)
         have HD6 := Lib.hid ((HDD.out.below (below_al _ (.cells #[.slice x.la x.ls.length x.lc, .int .i64 x.fr, .int .i64 x.n, .int .i64 x.mn, .int .i64 x.mx] 114))).snoc (x := x) (DeepE.below (.inr HNN.out) (below_al _ (.cells #[.slice x.la x.ls.length x.lc, .int .i64 x.fr, .int .i64 x.n, .int .i64 x.mn, .int .i64 x.mx] 114))) hn6 HAP.out (by decide))
         clear hn6 HAP hnb
         go_roundw
         case rel => exact ⟨0 + 1, r2, [] ++ [x], by go_num, hgo, Lib.hid rfl, rfl, HD6, by omega, Lib.hid (by rw [HTN.out, HM.out, if_neg (by omega), if_neg HNE.out, List.map_append, ← HXY.out]; rfl)⟩
         case measure => simp [intOf]; omega
        ·obtain ⟨q, hq⟩ : ∃ q, k = q + 1 := ⟨k - 1, by omega⟩
         have hlq : l.length = q + 1 := by rw [HLK.out]; exact hq
         obtain ⟨p, hp⟩ : ∃ p, l[q]? = some p := ⟨_, List.getElem?_eq_getElem (by omega)⟩
         have hes := HD4.out.at_ (HD4.out.n.below)
         obtain ⟨bo, oo, hoA, hbo, hps, g0, _, _, _, _⟩ := hes.at_ hp
         subst hoA
         have hcm := fun w' (hb : Below w4.heap.size w4 w') => rcompare_any _ _ p.ls x.ls w' (hps.below hb) (HN4.out.slice.below hb)
         obtain ⟨C, hC⟩ : ∃ C, C = cmpL p.ls x.ls := ⟨_, rfl⟩
         rw [← hC] at hcm
         have hea := early_at (y := y) hlq hp
         rw [← HXY.out, show (plE x).ls = x.ls from rfl, ← hC] at hea
         have HCM := Lib.hid hcm
         have HP0 := Lib.hid g0
         have HEA := Lib.hid hea
         have hkk : (0 : Int) < (k : Int) := by omega
         have hk3 : decide ((0 : Int) < (k : Int)) = true := decide_eq_true hkk
         have hkw : IntKind.i64.wrap ((k : Int) - 1) = (q : Int) := by rw [IntKind.wrap_i64]; omega
         have hkq : (q : Int) < (l.length : Int) := by omega
         have hkq0 : (0 : Int) ≤ (q : Int) := by omega
         have hkq1 : q < l.length := by omega
         clear hcm g0 hea hC hps hes hp hlq hq
         rcases Int.lt_or_le C 0 with hC | hC
         ·have HNE := Lib.hid (show ¬ Bok.early (l.map plE) y from fun h => by rw [← HXY.out] at h; have := HEA.out.1 h; omega)
          refine wp_region_known [(8, .slice p.la p.ls.length p.lc), (10, .slice x.la x.ls.length x.lc), (11, .int .i64 C)] (by kernel_rfl) 78 (by kernel_rfl) rfl ?_
          repeat (first
           | (refine Chain.step (v := ?_) (a' := ?_) rfl rfl rfl ?_ ?_ ?_; rotate_left 2; (focus (intro w; go_simp; try with_reducible rfl)); focus (simp only [Act.put, pqA, pqS, pqZ]; try rfl))
           | (refine Chain.call (i := 8) (a' := ?_) _ rfl rfl rfl (fun wx hw => ?_) ?_ ?_; rotate_left 1; (focus (have g0 := (Below.cell hw (p := ⟨bo, oo + q * 5, none⟩) hbo).trans HP0.out); (go_simp); (first | exact ⟨rfl, rB⟩ | exact rB)); focus (simp only [Act.put, pqA, pqS, pqZ]; try rfl))
           | (refine Chain.call (i := 10) (a' := ?_) _ rfl rfl rfl (fun wx hw => ?_) ?_ ?_; rotate_left 1; (focus (obtain ⟨g0, g1, g2, g3, g4⟩ := Blk.c5 (HX4.out.below hw); go_simp; first | exact ⟨rfl, rB⟩ | exact rB)); focus (simp only [Act.put, pqA, pqS, pqZ]; try rfl))
           | (refine Chain.call (i := 11) (a' := ?_) _ rfl rfl rfl (fun wx hw => ?_) ?_ ?_; rotate_left 1; (focus (go_simp; (with_reducible refine (HCM.out _ hw).mono ?_); exact (fun e w' ⟨h1, h2⟩ => by subst h1; exact ⟨rfl, h2⟩))); focus (simp only [Act.put, pqA, pqS, pqZ]; try rfl))
           | (refine Chain.skip (a' := ?_) rfl rfl rfl ?_ ?_; rotate_left 1; focus (simp only [Act.put, pqA, pqS, pqZ]; try rfl)))
          refine Chain.end_ (fun wz hwz _ => ?_)
          have HDD := Lib.hid (HD4.out.below hwz)
          have HNN := Lib.hid (HN4.out.then_below hwz)
          obtain ⟨x0, x1, x2, x3, x4⟩ := (HX4.out.below hwz).c5
          have hnb := HDD.out.n
          go_wp2_with (at_builtin; refine wpList_append_nlit rfl (.tmp 70) (.tmp 72) 29 rfl rentry_ty rfl hnb rfl (by simp) rfl (by simp [Value.oneCell']) (by simp only [maxLen]; omega) (by omega) ?_; intro v6 w6 hn6 ha6; have HAP := Lib.hid ha6; clear ha6)
          have HD6 := Lib.hid ((HDD.out.below (below_al _ (.cells #[.slice x.la x.ls.length x.lc, .int .i64 x.fr, .int .i64 x.n, .int .i64 x.mn, .int .i64 x.mx] 114))).snoc (x := x) (DeepE.below (.inr HNN.out) (below_al _ (.cells #[.slice x.la x.ls.length x.lc, .int .i64 x.fr, .int .i64 x.n, .int .i64 x.mn, .int .i64 x.mx] 114))) hn6 HAP.out (by decide))
          clear hn6 HAP hnb
          go_roundw
          case rel => exact ⟨k + 1, r2, l ++ [x], by go_num, hgo, Lib.hid (by rw [List.length_append, HLK.out]; rfl), rfl, HD6, by omega, Lib.hid (by rw [HTN.out, HM.out, if_neg (by omega), if_neg HNE.out, List.map_append, ← HXY.out]; rfl)⟩
          case measure => simp [intOf]; omega
         ·have hR := HENS.out [] [] 3 (by rw [HTN.out, if_neg (by omega), if_pos (by rw [← HXY.out]; exact HEA.out.2 hC)])
          rw [if_pos (by omega)] at hR
          have HRES := Lib.hid hR
          clear hR
          refine wp_region_known [(8, .slice p.la p.ls.length p.lc), (10, .slice x.la x.ls.length x.lc), (11, .int .i64 C)] (by kernel_rfl) 78 (by kernel_rfl) rfl ?_
          repeat (first
           | (refine Chain.step (v := ?_) (a' := ?_) rfl rfl rfl ?_ ?_ ?_; rotate_left 2; (focus (intro w; go_simp; try with_reducible rfl)); focus (simp only [Act.put, pqA, pqS, pqZ]; try rfl))
           | (refine Chain.call (i := 8) (a' := ?_) _ rfl rfl rfl (fun wx hw => ?_) ?_ ?_; rotate_left 1; (focus (have g0 := (Below.cell hw (p := ⟨bo, oo + q * 5, none⟩) hbo).trans HP0.out); (go_simp); (first | exact ⟨rfl, rB⟩ | exact rB)); focus (simp only [Act.put, pqA, pqS, pqZ]; try rfl))
           | (refine Chain.call (i := 10) (a' := ?_) _ rfl rfl rfl (fun wx hw => ?_) ?_ ?_; rotate_left 1; (focus (obtain ⟨g0, g1, g2, g3, g4⟩ := Blk.c5 (HX4.out.below hw); go_simp; first | exact ⟨rfl, rB⟩ | exact rB)); focus (simp only [Act.put, pqA, pqS, pqZ]; try rfl))
           | (refine Chain.call (i := 11) (a' := ?_) _ rfl rfl rfl (fun wx hw => ?_) ?_ ?_; rotate_left 1; (focus (go_simp; (with_reducible refine (HCM.out _ hw).mono ?_); exact (fun e w' ⟨h1, h2⟩ => by subst h1; exact ⟨rfl, h2⟩))); focus (simp only [Act.put, pqA, pqS, pqZ]; try rfl))
           | (refine Chain.skip (a' := ?_) rfl rfl rfl ?_ ?_; rotate_left 1; focus (simp only [Act.put, pqA, pqS, pqZ]; try rfl)))
          refine Chain.end_ (fun wz hwz _ => ?_)
          have HBX := Lib.hid (below_trans HB4.out hwz)
          go_wp2_with fail
          go_ret2
          rw [HRES.out]
          exact RetEs.no HBX.out
   ·have hne : kd.toNat ≠ 5 := fun h => h2 (UInt8.toNat_inj.1 h)
    have hb : (((kd.toNat : Nat) : Int) == 5) = false := by rw [beq_eq_false_iff_ne]; omega
    have hb' : (((kd.toNat : Nat) : Int) != 5) = true := by rw [bne_iff_ne]; omega
    have hres : R = ([], 3) := by
     rw [HR.out]
     exact entriesR_bad (by rw [HO.out]; simp [h2]) (by omega)
    have HRES := Lib.hid hres
    clear hne h2 hres HO HR
    go_enter Tryz.func11, Tryz.ntmps11
    go_wp2_with fail
    refine (HC.out _).mono ?_
    rintro e w1 ⟨rfl, hb1⟩
    have HB1 := Lib.hid (below_trans hb1 (below_al w1 (.cells #[.int .u8 (kd.toNat : Nat), .string (bs d)] 108)))
    clear hb1 HC
    go_wp2_with fail
    go_ret2
    rw [HRES.out]
    exact RetEs.no HB1.out
  ·have hb : r.isEmpty = false := by cases r; exact absurd rfl h1; rfl
   have hb2 : (r != []) = true := by rw [bne_iff_ne]; exact h1
   have hres : R = ([], 3) := by
    rw [HR.out]
    exact entriesR_bad (by rw [HO.out]; simp [h1]) (by omega)
   have HRES := Lib.hid hres
   clear h1 hres HO HR
   go_enter Tryz.func11, Tryz.ntmps11
   go_wp2_with fail
   refine (HC.out _).mono ?_
   rintro e w1 ⟨rfl, hb1⟩
   have HB1 := Lib.hid (below_trans hb1 (below_al w1 (.cells #[.int .u8 (kd.toNat : Nat), .string (bs d)] 108)))
   clear hb1 HC
   go_wp2_with fail
   go_ret2
   rw [HRES.out]
   exact RetEs.no HB1.out
 ·have hb : ((er : Int) == 0) = false := by rw [beq_eq_false_iff_ne]; omega
  have hres : R = ([], er) := by
   rw [HR.out]
   exact entriesR_bad (by rw [HO.out]; simp [h0]) h0
  have HRES := Lib.hid hres
  clear h0 hres HO HR hdl
  go_enter Tryz.func11, Tryz.ntmps11
  go_wp2_with fail
  refine (HC.out _).mono ?_
  rintro e w1 ⟨rfl, hb1⟩
  have HB1 := Lib.hid (below_trans hb1 (below_al w1 (.cells #[.int .u8 (kd.toNat : Nat), .string (bs d)] 108)))
  clear hb1 HC
  go_wp2_with fail
  go_ret2
  rw [HRES.out]
  exact RetEs.no HB1.out
end Go.Proofs.YtgabmfibfikdbaaGreatDoor

/-
 Layer 16: the walk of the reference's holds.
-/
namespace Go.Proofs.YtgabmfibfikdbaaGreatDoor
open Go.RowKit Go.Bar Go.Bar.Leb Go.Bar.Frm Go.Bar.Lab Go.Bar.Xor Go.Bar.Mrg Go.Bar.Met Go.Bar.Bok

set_option maxHeartbeats 4000000 in
set_option maxRecDepth 10000 in
theorem rholds_any (n d : List UInt8) (size : Int) (sm : Nat) (w : World) (hd : d.length ≤ 100000000) :
  Calls Tryz.prog 72 #[.agg #[.string (bs n), .int .i64 size, .int .u32 sm], .string (bs d)] w (RetBelow w (.bool (size == d.length && sm == Frm.sum d))) := by
 have hs : ∀ w, Calls Tryz.prog 66 #[.string (bs d)] w (RetBelow w (.int .u32 (Frm.sum d))) := fun w => by
  have := refSum_any (bs d) w (by rw [bs_size]; omega)
  rwa [bs_data] at this
 have HS := Lib.hid hs
 have X1 := Blk.new w #[.string (bs n), .int .i64 size, .int .u32 sm] 151
 have hb1 := below_al w (.cells #[.string (bs n), .int .i64 size, .int .u32 sm] 151)
 clear hs
 go_enter Tryz.func72, Tryz.ntmps72
 go_upto_region 1 with fail
 obtain ⟨wz, hwz⟩ : ∃ wz, wz = w.alloc (.cells #[.string (bs n), .int .i64 size, .int .u32 sm] 151) := ⟨_, rfl⟩
 obtain ⟨X, hX⟩ : ∃ X, X = w.heap.size := ⟨_, rfl⟩
 rw [← hwz, ← hX] at X1
 rw [← hwz] at hb1 ⊢
 rw [← hX]
 have HX := Lib.hid X1
 have HB1 := Lib.hid hb1
 clear hwz hX X1 hb1
 by_cases h : (size == (d.length : Int)) = true
 ·rw [h, Bool.true_and]
  obtain ⟨b, hb⟩ : ∃ b, (((sm : Nat) : Int) == ((Frm.sum d : Nat) : Int)) = b := ⟨_, rfl⟩
  have hb' : (sm == Frm.sum d) = b := by
   rw [← hb, Bool.eq_iff_iff, beq_iff_eq, beq_iff_eq]; omega
  rw [hb']
  have HB := Lib.hid hb'
  clear hb'
  refine wp_region_known [(1, .int .i64 size), (7, .int .u32 (sm : Nat)), (9, .int .u32 (Frm.sum d : Nat))] (by kernel_rfl) 17 (by kernel_rfl) rfl ?_
  repeat (first
   | (refine Chain.step (v := ?_) (a' := ?_) rfl rfl rfl ?_ ?_ ?_; rotate_left 2; (focus (intro w; go_simp; try with_reducible rfl)); focus (simp only [Act.put, pqA, pqS, pqZ]; try rfl))
   | (refine Chain.call (i := 1) (a' := ?_) _ rfl rfl rfl (fun wx hw => ?_) ?_ ?_; rotate_left 1; (focus (obtain ⟨g0, g1, g2⟩ := Blk.c3 (HX.out.below hw); go_simp; first | exact ⟨rfl, rB⟩ | exact rB)); focus (simp only [Act.put, pqA, pqS, pqZ]; try rfl))
   | (refine Chain.call (i := 7) (a' := ?_) _ rfl rfl rfl (fun wx hw => ?_) ?_ ?_; rotate_left 1; (focus (obtain ⟨g0, g1, g2⟩ := Blk.c3 (HX.out.below hw); go_simp; first | exact ⟨rfl, rB⟩ | exact rB)); focus (simp only [Act.put, pqA, pqS, pqZ]; try rfl))
   | (refine Chain.call (i := 9) (a' := ?_) _ rfl rfl rfl (fun wx hw => ?_) ?_ ?_; rotate_left 1; (focus (go_simp; (with_reducible refine (HS.out _).mono ?_); exact (fun e w' ⟨h1, h2⟩ => by subst h1; exact ⟨rfl, h2⟩))); focus (simp only [Act.put, pqA, pqS, pqZ]; try rfl))
   | (refine Chain.skip (a' := ?_) rfl rfl rfl ?_ ?_; rotate_left 1; focus (simp only [Act.put, pqA, pqS, pqZ]; try rfl)))
  refine Chain.end_ (fun wy hwy _ => ?_)
  have HBY := Lib.hid (below_trans HB1.out hwy)
  go_wp2_with fail
  go_ret
  exact ⟨by first | (rw [h, Bool.true_and, HB.out]; rfl) | (rw [h, Bool.false_and]; rfl), HBY.out⟩
 ·have h : (size == (d.length : Int)) = false := by simpa using h
  rw [h, Bool.false_and]
  refine wp_region_known [(1, .int .i64 size)] (by kernel_rfl) 17 (by kernel_rfl) rfl ?_
  repeat (first
   | (refine Chain.step (v := ?_) (a' := ?_) rfl rfl rfl ?_ ?_ ?_; rotate_left 2; (focus (intro w; go_simp; try with_reducible rfl)); focus (simp only [Act.put, pqA, pqS, pqZ]; try rfl))
   | (refine Chain.call (i := 1) (a' := ?_) _ rfl rfl rfl (fun wx hw => ?_) ?_ ?_; rotate_left 1; (focus (obtain ⟨g0, g1, g2⟩ := Blk.c3 (HX.out.below hw); go_simp; first | exact ⟨rfl, rB⟩ | exact rB)); focus (simp only [Act.put, pqA, pqS, pqZ]; try rfl))
   | (refine Chain.skip (a' := ?_) rfl rfl rfl ?_ ?_; rotate_left 1; focus (simp only [Act.put, pqA, pqS, pqZ]; try rfl)))
  refine Chain.end_ (fun wy hwy _ => ?_)
  have HBY := Lib.hid (below_trans HB1.out hwy)
  go_wp2_with fail
  go_ret
  exact ⟨by first | (rw [h, Bool.true_and, HB.out]; rfl) | (rw [h, Bool.false_and]; rfl), HBY.out⟩
end Go.Proofs.YtgabmfibfikdbaaGreatDoor
