/-
  Layer 14: the walk of symMerge over samples, the step that halves.
-/
import Derived.Test.YtjklcojnbcemoaaGreatDoorZMrgV

namespace Go.Proofs.YtjklcojnbcemoaaGreatDoor
open Go.RowKit Go.Bar Go.Bar.Xor Go.Bar.Mrg

set_option maxHeartbeats 20000000 in
set_option maxRecDepth 10000 in
theorem symStep_any (b o n c x m y : Nat) (F : Nat → Tg) (W w : World) (h : Rw W b o n c (fun k => (F k).1) w) (hxm : x + 1 < m) (hmy : m + 1 < y) (hy : y ≤ n) (hn : n < 1000000000) (h1 : Sor lt2 x m F) (h2 : Sor lt2 m y F) (ht : Tag x m y F)
    (ih : ∀ (x' m' y' : Nat) (F' : Nat → Tg) (w' : World), y' - x' < y - x → Rw W b o n c (fun k => (F' k).1) w' → x' < m' → m' < y' → y' ≤ n → Sor lt2 x' m' F' → Sor lt2 m' y' F' → Tag x' m' y' F' → Calls Tryz.prog 78 #[.slice (some ⟨b, o, none⟩) n c, .int .i64 (x' : Nat), .int .i64 (m' : Nat), .int .i64 (y' : Nat), fvS] w' (RetMg W b o n c x' y' F')) :
    Calls Tryz.prog 78 #[.slice (some ⟨b, o, none⟩) n c, .int .i64 (x : Nat), .int .i64 (m : Nat), .int .i64 (y : Nat), fvS] w (RetMg W b o n c x y F) := by
  have H1 := Lib.hid h1
  have H2 := Lib.hid h2
  have HT := Lib.hid ht
  have HIH := Lib.hid ih
  have hrt := fun (p q r : Nat) (f : Nat → Sm) (w' : World) (h1 : Rw W b o n c f w') (h2 : p < q) (h3 : q < r) (h4 : r ≤ n) => rotate_any b o n c p q r f fvS W w' h1 h2 h3 h4 hn
  have HRT := Lib.hid hrt
  clear h1 h2 ht ih hrt
  obtain ⟨f0, hf0⟩ : ∃ f0 : Nat → Sm, f0 = fun k => (F k).1 := ⟨_, rfl⟩
  rw [← hf0] at h
  have HF0 := Lib.hid hf0
  clear hf0
  obtain ⟨D, hD⟩ : ∃ D : Int, D = (m : Int) - (x : Int) := ⟨_, rfl⟩
  obtain ⟨E, hE⟩ : ∃ E : Int, E = (y : Int) - (m : Int) := ⟨_, rfl⟩
  have e1 : IntKind.i64.wrap ((m : Int) - (x : Int)) = D := by rw [IntKind.wrap_i64]; omega
  have e2 : (m : Int) - (x : Int) = D := hD.symm
  have e3 : ¬ D = 1 := by omega
  have e4 : IntKind.i64.wrap ((y : Int) - (m : Int)) = E := by rw [IntKind.wrap_i64]; omega
  have e5 : (y : Int) - (m : Int) = E := hE.symm
  have e6 : ¬ E = 1 := by omega
  clear hD hE
  obtain ⟨md, hmd⟩ : ∃ md, md = (x + y) / 2 := ⟨_, rfl⟩
  obtain ⟨nn, hnn⟩ : ∃ nn, nn = md + m := ⟨_, rfl⟩
  obtain ⟨p, hp⟩ : ∃ p, nn = p + 1 := ⟨nn - 1, by omega⟩
  have u1 : IntKind.i64.wrap ((x : Int) + (y : Int)) = (x : Int) + (y : Int) := by rw [IntKind.wrap_i64]; omega
  have u2 : ((x : Int) + (y : Int)) / 2 = (md : Int) := by omega
  have u3 : IntKind.i64.wrap ((md : Int) + (m : Int)) = (nn : Int) := by rw [IntKind.wrap_i64]; omega
  have u4 : (md : Int) + (m : Int) = (nn : Int) := by omega
  have u5 : IntKind.i64.wrap ((nn : Int) - 1) = (p : Int) := by rw [IntKind.wrap_i64]; omega
  have u6 : (nn : Int) - 1 = (p : Int) := by omega
  have hxmd : x ≤ md := by omega
  have hmdy : md < y := by omega
  have hmdx : x < md := by omega
  obtain ⟨lo, hi, hB, hcase⟩ : ∃ lo hi, Bnd x m y md lo hi ∧ ((md < m ∧ (lo : Int) = nn - y ∧ hi = md) ∨ (¬ md < m ∧ lo = x ∧ hi = m)) := by
    by_cases hc : md < m
    · exact ⟨md + m - y, md, Bnd.great (by omega) (by omega) hmd hc, .inl ⟨hc, by omega, rfl⟩⟩
    · exact ⟨x, m, Bnd.small (by omega) (by omega) hmd hc, .inr ⟨hc, rfl, rfl⟩⟩
  have HB := Lib.hid hB
  have HMD := Lib.hid hmd
  have HNN := Lib.hid hnn
  have HP := Lib.hid hp
  have hlohi := hB.lohi
  have him := hB.him
  have hxlo := hB.xlo
  clear hmd hnn hp hB
  go_enter Tryz.func78, Tryz.ntmps78
  rcases hcase with ⟨c1, c2, c3⟩ | ⟨c1, c2, c3⟩
  · have c4 : (md : Int) < (m : Int) := by omega
    have c5 : IntKind.i64.wrap ((nn : Int) - (y : Int)) = (lo : Int) := by rw [IntKind.wrap_i64]; omega
    have c6 : (nn : Int) - (y : Int) = (lo : Int) := by omega
    clear c2
    go_wp2_with fail
    have C3 := Lib.hid c3
    clear c4 c5 c6 c1 c3
    clear e1 e2 e3 e4 e5 e6 u1 u2 u3 u4 u5 u6
    go_loopw [20, 21] (fun iv jv wr => ∃ (s r : Nat), iv = .int .i64 s ∧ jv = .int .i64 r ∧ s ≤ r ∧ r ≤ hi ∧ lo ≤ s ∧ Hid (Cut x m y (md + m) lo hi s r F) ∧ Rw W b o n c f0 wr) (fun iv jv _ => (intOf jv).toNat - (intOf iv).toNat)
    case atStart => exact ⟨lo, hi, by first | rfl | rw [C2.out], by rw [C3.out], hlohi, Nat.le_refl _, Nat.le_refl _, Lib.hid (Cut.start HB.out), h⟩
    case round =>
      obtain ⟨s, r, rfl, rfl, hsr, hrh, hlos, HC0, hR⟩ := hrel
      clear h
      by_cases hgo : s < r
      · obtain ⟨q, hq⟩ : ∃ q, q = (s + r) / 2 := ⟨_, rfl⟩
        have hq1 : s ≤ q := by omega
        have hq2 : q < r := by omega
        have u1 : IntKind.i64.wrap ((s : Int) + (r : Int)) = (s : Int) + (r : Int) := by rw [IntKind.wrap_i64]; omega
        have hgz : (s : Int) < (r : Int) := by omega
        have hqz : ((s : Int) + (r : Int)) / 2 = (q : Int) := by omega
        have hba := HB.out.a q (by omega) (by omega)
        obtain ⟨t, hpq⟩ : ∃ t, t = md + m - 1 - q := ⟨_, rfl⟩
        rw [← hpq] at hba
        have hpt : (p : Int) - (q : Int) = (t : Int) := by have := HP.out; have := HNN.out; omega
        have hpw : IntKind.i64.wrap ((p : Int) - (q : Int)) = (t : Int) := by rw [IntKind.wrap_i64]; omega
        have htw : IntKind.i64.wrap (t : Int) = (t : Int) := by rw [IntKind.wrap_i64]; omega
        have hqn : q < n := by omega
        have htn : t < n := by omega
        have hqn2 : (q : Int) < (n : Int) := by omega
        have htn2 : (t : Int) < (n : Int) := by omega
        obtain ⟨X, hX⟩ : ∃ X, X = f0 t := ⟨_, rfl⟩
        obtain ⟨Y, hY⟩ : ∃ Y, Y = f0 q := ⟨_, rfl⟩
        have hat := fun (w' : World) (hb : Below wr.heap.size wr w') => (hR.below hb).at_ htn
        have hat1 := fun (w' : World) (hb : Below wr.heap.size wr w') => (hR.below hb).at_ hqn
        rw [← hX] at hat
        rw [← hY] at hat1
        have HAT := Lib.hid hat
        have HAT1 := Lib.hid hat1
        have HR := Lib.hid hR
        have hc := samCmp_any X Y
        have hz := cmpZ_lt X.1 Y.1
        obtain ⟨Z, hZ⟩ : ∃ Z, Z = cmpZ X.1 Y.1 := ⟨_, rfl⟩
        rw [← hZ] at hc hz
        have hst := Cut.step HB.out H1.out H2.out HC0.out hgo hq1 hq2
        rw [← hpq] at hst
        have hN : ¬ Z < 0 → Cut x m y (md + m) lo hi (q + 1) r F := fun hlz => hst.1 fun hh => hlz (hz.2 (by rw [hX, hY, HF0.out]; exact hh))
        have hM : Z < 0 → Cut x m y (md + m) lo hi s q F := fun hlz => hst.2 (by have := hz.1 hlz; rw [hX, hY, HF0.out] at this; exact this)
        have HN := Lib.hid hN
        have HM := Lib.hid hM
        have HC := Lib.hid hc
        clear hat hat1 hR hc hz hZ hX hY hq hpq hst hN hM hba
        go_upto_region 35 with fail
        by_cases hlz : Z < 0
        · have hlz0 := hlz
          clear hlz0
          refine wp_region_facts [(6, (isV (.agg #[.int .i64 X.1, .int .u64 (X.2 : Nat)]), noFact)), (10, (isV (.agg #[.int .i64 Y.1, .int .u64 (Y.2 : Nat)]), noFact)), (11, (isV (.int .i64 Z), noFact))] (by kernel_rfl) 220 (by kernel_rfl) rfl ?_ ?_ ?_
          · apply lookup_ne
            simp only [List.forall_mem_cons, List.not_mem_nil, false_imp_iff, implies_true, and_true]
            exact ⟨⟨_, rfl⟩, ⟨_, rfl⟩, ⟨_, rfl⟩⟩
          · apply lookup_st
            simp only [List.forall_mem_cons, List.not_mem_nil, false_imp_iff, implies_true, and_true]
            refine ⟨?_, ?_, ?_⟩
            · exact fun _ _ _ _ _ => trivial
            · exact fun _ _ _ _ _ => trivial
            · exact fun _ _ _ _ _ => trivial
          repeat (first
            | (refine Chain.step (v := ?_) (a' := ?_) rfl rfl rfl ?_ ?_ ?_
               rotate_left 2
               focus (intro w; go_simp; try with_reducible rfl)
               focus (simp only [Act.put, List.setIfInBounds_toArray, List.set_cons_succ, List.set_cons_zero]; try rfl))
            | (refine Chain.skip (a' := ?_) rfl rfl rfl ?_ ?_
               rotate_left 1
               focus (simp only [Act.put, List.setIfInBounds_toArray, List.set_cons_succ, List.set_cons_zero]; try rfl)))
          refine Chain.call' (a' := ?_) _ rfl rfl rfl rfl (fun wx hw hF => ?_) ?_ ?_
          rotate_left 1
          focus
            obtain ⟨a1, a2, _, _⟩ := HAT.out wx hw
            go_simp
            first | exact ⟨rfl, Below.refl _ _⟩ | exact Below.refl _ _
          focus (simp only [Act.put, List.setIfInBounds_toArray, List.set_cons_succ, List.set_cons_zero]; try rfl)
          repeat (first
            | (refine Chain.step (v := ?_) (a' := ?_) rfl rfl rfl ?_ ?_ ?_
               rotate_left 2
               focus (intro w; go_simp; try with_reducible rfl)
               focus (simp only [Act.put, List.setIfInBounds_toArray, List.set_cons_succ, List.set_cons_zero]; try rfl))
            | (refine Chain.skip (a' := ?_) rfl rfl rfl ?_ ?_
               rotate_left 1
               focus (simp only [Act.put, List.setIfInBounds_toArray, List.set_cons_succ, List.set_cons_zero]; try rfl)))
          refine Chain.call' (a' := ?_) _ rfl rfl rfl rfl (fun wx hw hF => ?_) ?_ ?_
          rotate_left 1
          focus
            obtain ⟨a1, a2, _, _⟩ := HAT1.out wx hw
            go_simp
            first | exact ⟨rfl, Below.refl _ _⟩ | exact Below.refl _ _
          focus (simp only [Act.put, List.setIfInBounds_toArray, List.set_cons_succ, List.set_cons_zero]; try rfl)
          repeat (first
            | (refine Chain.step (v := ?_) (a' := ?_) rfl rfl rfl ?_ ?_ ?_
               rotate_left 2
               focus (intro w; go_simp; try with_reducible rfl)
               focus (simp only [Act.put, List.setIfInBounds_toArray, List.set_cons_succ, List.set_cons_zero]; try rfl))
            | (refine Chain.skip (a' := ?_) rfl rfl rfl ?_ ?_
               rotate_left 1
               focus (simp only [Act.put, List.setIfInBounds_toArray, List.set_cons_succ, List.set_cons_zero]; try rfl)))
          refine Chain.call' (a' := ?_) _ rfl rfl rfl rfl (fun wx hw hF => ?_) ?_ ?_
          rotate_left 1
          focus
            go_simp; (with_reducible refine (HC.out _).mono ?_); exact (fun e w' ⟨h1, h2⟩ => by subst h1; exact ⟨rfl, h2⟩)
          focus (simp only [Act.put, List.setIfInBounds_toArray, List.set_cons_succ, List.set_cons_zero]; try rfl)
          repeat (first
            | (refine Chain.step (v := ?_) (a' := ?_) rfl rfl rfl ?_ ?_ ?_
               rotate_left 2
               focus (intro w; go_simp; try with_reducible rfl)
               focus (simp only [Act.put, List.setIfInBounds_toArray, List.set_cons_succ, List.set_cons_zero]; try rfl))
            | (refine Chain.skip (a' := ?_) rfl rfl rfl ?_ ?_
               rotate_left 1
               focus (simp only [Act.put, List.setIfInBounds_toArray, List.set_cons_succ, List.set_cons_zero]; try rfl)))
          refine Chain.end_ (fun wz hwz _ => ?_)
          have hR2 := HR.out.below hwz
          have HC1 := Lib.hid (HM.out hlz)
          clear HAT HAT1 HR HC hwz HN HM HC0
          go_wp2_with fail
          go_roundw
          case rel => exact ⟨s, q, rfl, rfl, by omega, by omega, hlos, HC1, hR2⟩
          case measure => simp [intOf]; omega
        · have hlz0 := hlz
          clear hlz0
          refine wp_region_facts [(6, (isV (.agg #[.int .i64 X.1, .int .u64 (X.2 : Nat)]), noFact)), (10, (isV (.agg #[.int .i64 Y.1, .int .u64 (Y.2 : Nat)]), noFact)), (11, (isV (.int .i64 Z), noFact))] (by kernel_rfl) 220 (by kernel_rfl) rfl ?_ ?_ ?_
          · apply lookup_ne
            simp only [List.forall_mem_cons, List.not_mem_nil, false_imp_iff, implies_true, and_true]
            exact ⟨⟨_, rfl⟩, ⟨_, rfl⟩, ⟨_, rfl⟩⟩
          · apply lookup_st
            simp only [List.forall_mem_cons, List.not_mem_nil, false_imp_iff, implies_true, and_true]
            refine ⟨?_, ?_, ?_⟩
            · exact fun _ _ _ _ _ => trivial
            · exact fun _ _ _ _ _ => trivial
            · exact fun _ _ _ _ _ => trivial
          repeat (first
            | (refine Chain.step (v := ?_) (a' := ?_) rfl rfl rfl ?_ ?_ ?_
               rotate_left 2
               focus (intro w; go_simp; try with_reducible rfl)
               focus (simp only [Act.put, List.setIfInBounds_toArray, List.set_cons_succ, List.set_cons_zero]; try rfl))
            | (refine Chain.skip (a' := ?_) rfl rfl rfl ?_ ?_
               rotate_left 1
               focus (simp only [Act.put, List.setIfInBounds_toArray, List.set_cons_succ, List.set_cons_zero]; try rfl)))
          refine Chain.call' (a' := ?_) _ rfl rfl rfl rfl (fun wx hw hF => ?_) ?_ ?_
          rotate_left 1
          focus
            obtain ⟨a1, a2, _, _⟩ := HAT.out wx hw
            go_simp
            first | exact ⟨rfl, Below.refl _ _⟩ | exact Below.refl _ _
          focus (simp only [Act.put, List.setIfInBounds_toArray, List.set_cons_succ, List.set_cons_zero]; try rfl)
          repeat (first
            | (refine Chain.step (v := ?_) (a' := ?_) rfl rfl rfl ?_ ?_ ?_
               rotate_left 2
               focus (intro w; go_simp; try with_reducible rfl)
               focus (simp only [Act.put, List.setIfInBounds_toArray, List.set_cons_succ, List.set_cons_zero]; try rfl))
            | (refine Chain.skip (a' := ?_) rfl rfl rfl ?_ ?_
               rotate_left 1
               focus (simp only [Act.put, List.setIfInBounds_toArray, List.set_cons_succ, List.set_cons_zero]; try rfl)))
          refine Chain.call' (a' := ?_) _ rfl rfl rfl rfl (fun wx hw hF => ?_) ?_ ?_
          rotate_left 1
          focus
            obtain ⟨a1, a2, _, _⟩ := HAT1.out wx hw
            go_simp
            first | exact ⟨rfl, Below.refl _ _⟩ | exact Below.refl _ _
          focus (simp only [Act.put, List.setIfInBounds_toArray, List.set_cons_succ, List.set_cons_zero]; try rfl)
          repeat (first
            | (refine Chain.step (v := ?_) (a' := ?_) rfl rfl rfl ?_ ?_ ?_
               rotate_left 2
               focus (intro w; go_simp; try with_reducible rfl)
               focus (simp only [Act.put, List.setIfInBounds_toArray, List.set_cons_succ, List.set_cons_zero]; try rfl))
            | (refine Chain.skip (a' := ?_) rfl rfl rfl ?_ ?_
               rotate_left 1
               focus (simp only [Act.put, List.setIfInBounds_toArray, List.set_cons_succ, List.set_cons_zero]; try rfl)))
          refine Chain.call' (a' := ?_) _ rfl rfl rfl rfl (fun wx hw hF => ?_) ?_ ?_
          rotate_left 1
          focus
            go_simp; (with_reducible refine (HC.out _).mono ?_); exact (fun e w' ⟨h1, h2⟩ => by subst h1; exact ⟨rfl, h2⟩)
          focus (simp only [Act.put, List.setIfInBounds_toArray, List.set_cons_succ, List.set_cons_zero]; try rfl)
          repeat (first
            | (refine Chain.step (v := ?_) (a' := ?_) rfl rfl rfl ?_ ?_ ?_
               rotate_left 2
               focus (intro w; go_simp; try with_reducible rfl)
               focus (simp only [Act.put, List.setIfInBounds_toArray, List.set_cons_succ, List.set_cons_zero]; try rfl))
            | (refine Chain.skip (a' := ?_) rfl rfl rfl ?_ ?_
               rotate_left 1
               focus (simp only [Act.put, List.setIfInBounds_toArray, List.set_cons_succ, List.set_cons_zero]; try rfl)))
          refine Chain.end_ (fun wz hwz _ => ?_)
          have hR2 := HR.out.below hwz
          have HC1 := Lib.hid (HN.out hlz)
          clear HAT HAT1 HR HC hwz HN HM HC0
          go_wp2_with fail
          go_roundw
          case rel => exact ⟨q + 1, r, by go_num, rfl, by omega, hrh, by omega, HC1, hR2⟩
          case measure => simp [intOf]; omega
      · obtain rfl : s = r := by omega
        obtain ⟨f1, f2, f3, f4, f5, f6, K1, K2⟩ := HC0.out.found (by omega) (by omega) HMD.out HB.out H1.out H2.out HT.out
        obtain ⟨e, he⟩ : ∃ e, e = md + m - s := ⟨_, rfl⟩
        rw [← he] at f4 f5 f6 K1 K2
        have hG := halved f1 f2 f4 f5 f6 H1.out H2.out HT.out K1 K2
        have hGf := rot_fst s m e F
        obtain ⟨G, hGd⟩ : ∃ G, G = rot s m e F := ⟨_, rfl⟩
        rw [← hGd] at hG hGf
        have HGF : Hid (rot s m e f0 = fun k => (G k).1) := Lib.hid (by rw [HF0.out]; exact hGf.symm)
        have HGN : Hid (¬ (s < m ∧ m < e) → f0 = fun k => (G k).1) := Lib.hid (fun hn => by rw [HF0.out, hG.n0 hn])
        have HG := Lib.hid hG
        have v1 : (nn : Int) - (s : Int) = (e : Int) := by have := HNN.out; omega
        have v2 : IntKind.i64.wrap ((nn : Int) - (s : Int)) = (e : Int) := by rw [IntKind.wrap_i64]; omega
        have hme : md ≤ e := by omega
        clear K1 K2 hG hGf hGd HC0 f6 he hgo
        have hthird : Hid (∀ (G1 : Nat → Tg) (w3 : World), PermOn x md G G1 → Sor lt2 x md G1 → Rw W b o n c (fun k => (G1 k).1) w3 → (¬ (md < e ∧ e < y) → RetMg W b o n c x y F (.returned (.tuple #[])) w3) ∧
            (md < e → e < y → Calls Tryz.prog 78 #[.slice (some ⟨b, o, none⟩) n c, .int .i64 (md : Nat), .int .i64 (e : Nat), .int .i64 (y : Nat), fvS] w3 (RetMg W b o n c x y F))) := Lib.hid (fun G1 w3 p1 s1 hr => by
          obtain ⟨q1, q2, q3, q4⟩ := HG.out.second p1 hme f5
          refine ⟨fun hn => ?_, fun k1 k2 => ?_⟩
          · obtain ⟨z1, z2⟩ := HG.out.whole hxmd (by omega) p1 s1 (PermOn.refl _ _ _) (q4 hn)
            exact ⟨rfl, G1, z1, z2, hr⟩
          · refine (HIH.out md e y G1 w3 (by omega) hr k1 k2 hy q1 q2 q3).mono ?_
            rintro en w4 ⟨rfl, G2, p2, s2, hr2⟩
            obtain ⟨z1, z2⟩ := HG.out.whole hxmd (by omega) p1 s1 p2 s2
            exact ⟨rfl, G2, z1, z2, hr2⟩)
        have hsecond : Hid (∀ (w2 : World), Rw W b o n c (fun k => (G k).1) w2 → x < s → s < md → Calls Tryz.prog 78 #[.slice (some ⟨b, o, none⟩) n c, .int .i64 (x : Nat), .int .i64 (s : Nat), .int .i64 (md : Nat), fvS] w2 (RetMg W b o n c x md G)) := Lib.hid (fun w2 hr k1 k2 => HIH.out x s md G w2 (by omega) hr k1 k2 (by omega) HG.out.a1 HG.out.a2 HG.out.t1)
        by_cases d0 : s < m ∧ m < e
        · have hrot := HRT.out s m e f0 wr hR d0.1 d0.2 (by omega)
          rw [HGF.out] at hrot
          have HROT := Lib.hid hrot
          have g1 : (s : Int) < (m : Int) := by omega
          have g2 : (m : Int) < (e : Int) := by omega
          clear hrot hR d0
          go_wp2_with fail
          refine HROT.out.mono ?_
          rintro en w2 ⟨rfl, hR2⟩
          clear HROT g1 g2
          by_cases d1 : x < s ∧ s < md
          · have g1 : (x : Int) < (s : Int) := by omega
            have g2 : (s : Int) < (md : Int) := by omega
            have hcl := hsecond.out w2 hR2 d1.1 d1.2
            have HCL := Lib.hid hcl
            clear hcl hR2 d1
            go_wp2_with fail
            refine HCL.out.mono ?_
            rintro en w3 ⟨rfl, G1, p1, s1, hR3⟩
            have hth := hthird.out G1 w3 p1 s1 hR3
            have HTH := Lib.hid hth
            clear HCL g1 g2 hth p1 s1 hR3
            by_cases d3 : md < e ∧ e < y
            · have g1 : (md : Int) < (e : Int) := by omega
              have g2 : (e : Int) < (y : Int) := by omega
              have hcl := HTH.out.2 d3.1 d3.2
              have HCL := Lib.hid hcl
              clear hcl
              go_wp2_with fail
              refine HCL.out.mono ?_
              rintro en w4 ⟨rfl, hfin⟩
              have HFIN := Lib.hid hfin
              clear hfin
              go_wp2_with fail
              go_end0
              exact ⟨rfl, HFIN.out⟩
            · have hfin := HTH.out.1 d3
              have HFIN := Lib.hid hfin
              clear hfin
              by_cases d4 : md < e
              · have g1 : (md : Int) < (e : Int) := by omega
                have g2 : ¬ (e : Int) < (y : Int) := by omega
                go_wp2_with fail
                go_end0
                exact HFIN.out
              · have g1 : ¬ (md : Int) < (e : Int) := by omega
                go_wp2_with fail
                go_end0
                exact HFIN.out
          · have hth := hthird.out G w2 (PermOn.refl _ _ _) (HG.out.n1 d1) hR2
            have HTH := Lib.hid hth
            clear hth hR2
            by_cases d2 : x < s
            · have g1 : (x : Int) < (s : Int) := by omega
              have g2 : ¬ (s : Int) < (md : Int) := by omega
              go_upto_region 43 with fail
              clear g1 g2 d1 d2
              by_cases d3 : md < e ∧ e < y
              · have g1 : (md : Int) < (e : Int) := by omega
                have g2 : (e : Int) < (y : Int) := by omega
                have hcl := HTH.out.2 d3.1 d3.2
                have HCL := Lib.hid hcl
                clear hcl
                go_wp2_with fail
                refine HCL.out.mono ?_
                rintro en w4 ⟨rfl, hfin⟩
                have HFIN := Lib.hid hfin
                clear hfin
                go_wp2_with fail
                go_end0
                exact ⟨rfl, HFIN.out⟩
              · have hfin := HTH.out.1 d3
                have HFIN := Lib.hid hfin
                clear hfin
                by_cases d4 : md < e
                · have g1 : (md : Int) < (e : Int) := by omega
                  have g2 : ¬ (e : Int) < (y : Int) := by omega
                  go_wp2_with fail
                  go_end0
                  exact HFIN.out
                · have g1 : ¬ (md : Int) < (e : Int) := by omega
                  go_wp2_with fail
                  go_end0
                  exact HFIN.out
            · have g1 : ¬ (x : Int) < (s : Int) := by omega
              go_upto_region 43 with fail
              clear g1 d1 d2
              by_cases d3 : md < e ∧ e < y
              · have g1 : (md : Int) < (e : Int) := by omega
                have g2 : (e : Int) < (y : Int) := by omega
                have hcl := HTH.out.2 d3.1 d3.2
                have HCL := Lib.hid hcl
                clear hcl
                go_wp2_with fail
                refine HCL.out.mono ?_
                rintro en w4 ⟨rfl, hfin⟩
                have HFIN := Lib.hid hfin
                clear hfin
                go_wp2_with fail
                go_end0
                exact ⟨rfl, HFIN.out⟩
              · have hfin := HTH.out.1 d3
                have HFIN := Lib.hid hfin
                clear hfin
                by_cases d4 : md < e
                · have g1 : (md : Int) < (e : Int) := by omega
                  have g2 : ¬ (e : Int) < (y : Int) := by omega
                  go_wp2_with fail
                  go_end0
                  exact HFIN.out
                · have g1 : ¬ (md : Int) < (e : Int) := by omega
                  go_wp2_with fail
                  go_end0
                  exact HFIN.out
        · have hR2 : Rw W b o n c (fun k => (G k).1) wr := by rw [← HGN.out d0]; exact hR
          clear hR
          obtain ⟨w2, hw2⟩ : ∃ w2, w2 = wr := ⟨_, rfl⟩
          rw [← hw2] at hR2
          by_cases d1 : s < m
          · have g1 : (s : Int) < (m : Int) := by omega
            have g2 : ¬ (m : Int) < (e : Int) := by omega
            go_upto_region 41 with fail
            clear g1 g2 d0 d1
            subst hw2
            by_cases d1 : x < s ∧ s < md
            · have g1 : (x : Int) < (s : Int) := by omega
              have g2 : (s : Int) < (md : Int) := by omega
              have hcl := hsecond.out w2 hR2 d1.1 d1.2
              have HCL := Lib.hid hcl
              clear hcl hR2 d1
              go_wp2_with fail
              refine HCL.out.mono ?_
              rintro en w3 ⟨rfl, G1, p1, s1, hR3⟩
              have hth := hthird.out G1 w3 p1 s1 hR3
              have HTH := Lib.hid hth
              clear HCL g1 g2 hth p1 s1 hR3
              by_cases d3 : md < e ∧ e < y
              · have g1 : (md : Int) < (e : Int) := by omega
                have g2 : (e : Int) < (y : Int) := by omega
                have hcl := HTH.out.2 d3.1 d3.2
                have HCL := Lib.hid hcl
                clear hcl
                go_wp2_with fail
                refine HCL.out.mono ?_
                rintro en w4 ⟨rfl, hfin⟩
                have HFIN := Lib.hid hfin
                clear hfin
                go_wp2_with fail
                go_end0
                exact ⟨rfl, HFIN.out⟩
              · have hfin := HTH.out.1 d3
                have HFIN := Lib.hid hfin
                clear hfin
                by_cases d4 : md < e
                · have g1 : (md : Int) < (e : Int) := by omega
                  have g2 : ¬ (e : Int) < (y : Int) := by omega
                  go_wp2_with fail
                  go_end0
                  exact HFIN.out
                · have g1 : ¬ (md : Int) < (e : Int) := by omega
                  go_wp2_with fail
                  go_end0
                  exact HFIN.out
            · have hth := hthird.out G w2 (PermOn.refl _ _ _) (HG.out.n1 d1) hR2
              have HTH := Lib.hid hth
              clear hth hR2
              by_cases d2 : x < s
              · have g1 : (x : Int) < (s : Int) := by omega
                have g2 : ¬ (s : Int) < (md : Int) := by omega
                go_upto_region 43 with fail
                clear g1 g2 d1 d2
                by_cases d3 : md < e ∧ e < y
                · have g1 : (md : Int) < (e : Int) := by omega
                  have g2 : (e : Int) < (y : Int) := by omega
                  have hcl := HTH.out.2 d3.1 d3.2
                  have HCL := Lib.hid hcl
                  clear hcl
                  go_wp2_with fail
                  refine HCL.out.mono ?_
                  rintro en w4 ⟨rfl, hfin⟩
                  have HFIN := Lib.hid hfin
                  clear hfin
                  go_wp2_with fail
                  go_end0
                  exact ⟨rfl, HFIN.out⟩
                · have hfin := HTH.out.1 d3
                  have HFIN := Lib.hid hfin
                  clear hfin
                  by_cases d4 : md < e
                  · have g1 : (md : Int) < (e : Int) := by omega
                    have g2 : ¬ (e : Int) < (y : Int) := by omega
                    go_wp2_with fail
                    go_end0
                    exact HFIN.out
                  · have g1 : ¬ (md : Int) < (e : Int) := by omega
                    go_wp2_with fail
                    go_end0
                    exact HFIN.out
              · have g1 : ¬ (x : Int) < (s : Int) := by omega
                go_upto_region 43 with fail
                clear g1 d1 d2
                by_cases d3 : md < e ∧ e < y
                · have g1 : (md : Int) < (e : Int) := by omega
                  have g2 : (e : Int) < (y : Int) := by omega
                  have hcl := HTH.out.2 d3.1 d3.2
                  have HCL := Lib.hid hcl
                  clear hcl
                  go_wp2_with fail
                  refine HCL.out.mono ?_
                  rintro en w4 ⟨rfl, hfin⟩
                  have HFIN := Lib.hid hfin
                  clear hfin
                  go_wp2_with fail
                  go_end0
                  exact ⟨rfl, HFIN.out⟩
                · have hfin := HTH.out.1 d3
                  have HFIN := Lib.hid hfin
                  clear hfin
                  by_cases d4 : md < e
                  · have g1 : (md : Int) < (e : Int) := by omega
                    have g2 : ¬ (e : Int) < (y : Int) := by omega
                    go_wp2_with fail
                    go_end0
                    exact HFIN.out
                  · have g1 : ¬ (md : Int) < (e : Int) := by omega
                    go_wp2_with fail
                    go_end0
                    exact HFIN.out
          · have g1 : ¬ (s : Int) < (m : Int) := by omega
            go_upto_region 41 with fail
            clear g1 d0 d1
            subst hw2
            by_cases d1 : x < s ∧ s < md
            · have g1 : (x : Int) < (s : Int) := by omega
              have g2 : (s : Int) < (md : Int) := by omega
              have hcl := hsecond.out w2 hR2 d1.1 d1.2
              have HCL := Lib.hid hcl
              clear hcl hR2 d1
              go_wp2_with fail
              refine HCL.out.mono ?_
              rintro en w3 ⟨rfl, G1, p1, s1, hR3⟩
              have hth := hthird.out G1 w3 p1 s1 hR3
              have HTH := Lib.hid hth
              clear HCL g1 g2 hth p1 s1 hR3
              by_cases d3 : md < e ∧ e < y
              · have g1 : (md : Int) < (e : Int) := by omega
                have g2 : (e : Int) < (y : Int) := by omega
                have hcl := HTH.out.2 d3.1 d3.2
                have HCL := Lib.hid hcl
                clear hcl
                go_wp2_with fail
                refine HCL.out.mono ?_
                rintro en w4 ⟨rfl, hfin⟩
                have HFIN := Lib.hid hfin
                clear hfin
                go_wp2_with fail
                go_end0
                exact ⟨rfl, HFIN.out⟩
              · have hfin := HTH.out.1 d3
                have HFIN := Lib.hid hfin
                clear hfin
                by_cases d4 : md < e
                · have g1 : (md : Int) < (e : Int) := by omega
                  have g2 : ¬ (e : Int) < (y : Int) := by omega
                  go_wp2_with fail
                  go_end0
                  exact HFIN.out
                · have g1 : ¬ (md : Int) < (e : Int) := by omega
                  go_wp2_with fail
                  go_end0
                  exact HFIN.out
            · have hth := hthird.out G w2 (PermOn.refl _ _ _) (HG.out.n1 d1) hR2
              have HTH := Lib.hid hth
              clear hth hR2
              by_cases d2 : x < s
              · have g1 : (x : Int) < (s : Int) := by omega
                have g2 : ¬ (s : Int) < (md : Int) := by omega
                go_upto_region 43 with fail
                clear g1 g2 d1 d2
                by_cases d3 : md < e ∧ e < y
                · have g1 : (md : Int) < (e : Int) := by omega
                  have g2 : (e : Int) < (y : Int) := by omega
                  have hcl := HTH.out.2 d3.1 d3.2
                  have HCL := Lib.hid hcl
                  clear hcl
                  go_wp2_with fail
                  refine HCL.out.mono ?_
                  rintro en w4 ⟨rfl, hfin⟩
                  have HFIN := Lib.hid hfin
                  clear hfin
                  go_wp2_with fail
                  go_end0
                  exact ⟨rfl, HFIN.out⟩
                · have hfin := HTH.out.1 d3
                  have HFIN := Lib.hid hfin
                  clear hfin
                  by_cases d4 : md < e
                  · have g1 : (md : Int) < (e : Int) := by omega
                    have g2 : ¬ (e : Int) < (y : Int) := by omega
                    go_wp2_with fail
                    go_end0
                    exact HFIN.out
                  · have g1 : ¬ (md : Int) < (e : Int) := by omega
                    go_wp2_with fail
                    go_end0
                    exact HFIN.out
              · have g1 : ¬ (x : Int) < (s : Int) := by omega
                go_upto_region 43 with fail
                clear g1 d1 d2
                by_cases d3 : md < e ∧ e < y
                · have g1 : (md : Int) < (e : Int) := by omega
                  have g2 : (e : Int) < (y : Int) := by omega
                  have hcl := HTH.out.2 d3.1 d3.2
                  have HCL := Lib.hid hcl
                  clear hcl
                  go_wp2_with fail
                  refine HCL.out.mono ?_
                  rintro en w4 ⟨rfl, hfin⟩
                  have HFIN := Lib.hid hfin
                  clear hfin
                  go_wp2_with fail
                  go_end0
                  exact ⟨rfl, HFIN.out⟩
                · have hfin := HTH.out.1 d3
                  have HFIN := Lib.hid hfin
                  clear hfin
                  by_cases d4 : md < e
                  · have g1 : (md : Int) < (e : Int) := by omega
                    have g2 : ¬ (e : Int) < (y : Int) := by omega
                    go_wp2_with fail
                    go_end0
                    exact HFIN.out
                  · have g1 : ¬ (md : Int) < (e : Int) := by omega
                    go_wp2_with fail
                    go_end0
                    exact HFIN.out
  · have c4 : ¬ (md : Int) < (m : Int) := by omega
    go_wp2_with fail
    have C3 := Lib.hid c3
    have C2 := Lib.hid c2
    clear c4 c1 c2 c3
    clear e1 e2 e3 e4 e5 e6 u1 u2 u3 u4 u5 u6
    go_loopw [20, 21] (fun iv jv wr => ∃ (s r : Nat), iv = .int .i64 s ∧ jv = .int .i64 r ∧ s ≤ r ∧ r ≤ hi ∧ lo ≤ s ∧ Hid (Cut x m y (md + m) lo hi s r F) ∧ Rw W b o n c f0 wr) (fun iv jv _ => (intOf jv).toNat - (intOf iv).toNat)
    case atStart => exact ⟨lo, hi, by first | rfl | rw [C2.out], by rw [C3.out], hlohi, Nat.le_refl _, Nat.le_refl _, Lib.hid (Cut.start HB.out), h⟩
    case round =>
      obtain ⟨s, r, rfl, rfl, hsr, hrh, hlos, HC0, hR⟩ := hrel
      clear h
      by_cases hgo : s < r
      · obtain ⟨q, hq⟩ : ∃ q, q = (s + r) / 2 := ⟨_, rfl⟩
        have hq1 : s ≤ q := by omega
        have hq2 : q < r := by omega
        have u1 : IntKind.i64.wrap ((s : Int) + (r : Int)) = (s : Int) + (r : Int) := by rw [IntKind.wrap_i64]; omega
        have hgz : (s : Int) < (r : Int) := by omega
        have hqz : ((s : Int) + (r : Int)) / 2 = (q : Int) := by omega
        have hba := HB.out.a q (by omega) (by omega)
        obtain ⟨t, hpq⟩ : ∃ t, t = md + m - 1 - q := ⟨_, rfl⟩
        rw [← hpq] at hba
        have hpt : (p : Int) - (q : Int) = (t : Int) := by have := HP.out; have := HNN.out; omega
        have hpw : IntKind.i64.wrap ((p : Int) - (q : Int)) = (t : Int) := by rw [IntKind.wrap_i64]; omega
        have htw : IntKind.i64.wrap (t : Int) = (t : Int) := by rw [IntKind.wrap_i64]; omega
        have hqn : q < n := by omega
        have htn : t < n := by omega
        have hqn2 : (q : Int) < (n : Int) := by omega
        have htn2 : (t : Int) < (n : Int) := by omega
        obtain ⟨X, hX⟩ : ∃ X, X = f0 t := ⟨_, rfl⟩
        obtain ⟨Y, hY⟩ : ∃ Y, Y = f0 q := ⟨_, rfl⟩
        have hat := fun (w' : World) (hb : Below wr.heap.size wr w') => (hR.below hb).at_ htn
        have hat1 := fun (w' : World) (hb : Below wr.heap.size wr w') => (hR.below hb).at_ hqn
        rw [← hX] at hat
        rw [← hY] at hat1
        have HAT := Lib.hid hat
        have HAT1 := Lib.hid hat1
        have HR := Lib.hid hR
        have hc := samCmp_any X Y
        have hz := cmpZ_lt X.1 Y.1
        obtain ⟨Z, hZ⟩ : ∃ Z, Z = cmpZ X.1 Y.1 := ⟨_, rfl⟩
        rw [← hZ] at hc hz
        have hst := Cut.step HB.out H1.out H2.out HC0.out hgo hq1 hq2
        rw [← hpq] at hst
        have hN : ¬ Z < 0 → Cut x m y (md + m) lo hi (q + 1) r F := fun hlz => hst.1 fun hh => hlz (hz.2 (by rw [hX, hY, HF0.out]; exact hh))
        have hM : Z < 0 → Cut x m y (md + m) lo hi s q F := fun hlz => hst.2 (by have := hz.1 hlz; rw [hX, hY, HF0.out] at this; exact this)
        have HN := Lib.hid hN
        have HM := Lib.hid hM
        have HC := Lib.hid hc
        clear hat hat1 hR hc hz hZ hX hY hq hpq hst hN hM hba
        go_upto_region 35 with fail
        by_cases hlz : Z < 0
        · have hlz0 := hlz
          clear hlz0
          refine wp_region_facts [(6, (isV (.agg #[.int .i64 X.1, .int .u64 (X.2 : Nat)]), noFact)), (10, (isV (.agg #[.int .i64 Y.1, .int .u64 (Y.2 : Nat)]), noFact)), (11, (isV (.int .i64 Z), noFact))] (by kernel_rfl) 220 (by kernel_rfl) rfl ?_ ?_ ?_
          · apply lookup_ne
            simp only [List.forall_mem_cons, List.not_mem_nil, false_imp_iff, implies_true, and_true]
            exact ⟨⟨_, rfl⟩, ⟨_, rfl⟩, ⟨_, rfl⟩⟩
          · apply lookup_st
            simp only [List.forall_mem_cons, List.not_mem_nil, false_imp_iff, implies_true, and_true]
            refine ⟨?_, ?_, ?_⟩
            · exact fun _ _ _ _ _ => trivial
            · exact fun _ _ _ _ _ => trivial
            · exact fun _ _ _ _ _ => trivial
          repeat (first
            | (refine Chain.step (v := ?_) (a' := ?_) rfl rfl rfl ?_ ?_ ?_
               rotate_left 2
               focus (intro w; go_simp; try with_reducible rfl)
               focus (simp only [Act.put, List.setIfInBounds_toArray, List.set_cons_succ, List.set_cons_zero]; try rfl))
            | (refine Chain.skip (a' := ?_) rfl rfl rfl ?_ ?_
               rotate_left 1
               focus (simp only [Act.put, List.setIfInBounds_toArray, List.set_cons_succ, List.set_cons_zero]; try rfl)))
          refine Chain.call' (a' := ?_) _ rfl rfl rfl rfl (fun wx hw hF => ?_) ?_ ?_
          rotate_left 1
          focus
            obtain ⟨a1, a2, _, _⟩ := HAT.out wx hw
            go_simp
            first | exact ⟨rfl, Below.refl _ _⟩ | exact Below.refl _ _
          focus (simp only [Act.put, List.setIfInBounds_toArray, List.set_cons_succ, List.set_cons_zero]; try rfl)
          repeat (first
            | (refine Chain.step (v := ?_) (a' := ?_) rfl rfl rfl ?_ ?_ ?_
               rotate_left 2
               focus (intro w; go_simp; try with_reducible rfl)
               focus (simp only [Act.put, List.setIfInBounds_toArray, List.set_cons_succ, List.set_cons_zero]; try rfl))
            | (refine Chain.skip (a' := ?_) rfl rfl rfl ?_ ?_
               rotate_left 1
               focus (simp only [Act.put, List.setIfInBounds_toArray, List.set_cons_succ, List.set_cons_zero]; try rfl)))
          refine Chain.call' (a' := ?_) _ rfl rfl rfl rfl (fun wx hw hF => ?_) ?_ ?_
          rotate_left 1
          focus
            obtain ⟨a1, a2, _, _⟩ := HAT1.out wx hw
            go_simp
            first | exact ⟨rfl, Below.refl _ _⟩ | exact Below.refl _ _
          focus (simp only [Act.put, List.setIfInBounds_toArray, List.set_cons_succ, List.set_cons_zero]; try rfl)
          repeat (first
            | (refine Chain.step (v := ?_) (a' := ?_) rfl rfl rfl ?_ ?_ ?_
               rotate_left 2
               focus (intro w; go_simp; try with_reducible rfl)
               focus (simp only [Act.put, List.setIfInBounds_toArray, List.set_cons_succ, List.set_cons_zero]; try rfl))
            | (refine Chain.skip (a' := ?_) rfl rfl rfl ?_ ?_
               rotate_left 1
               focus (simp only [Act.put, List.setIfInBounds_toArray, List.set_cons_succ, List.set_cons_zero]; try rfl)))
          refine Chain.call' (a' := ?_) _ rfl rfl rfl rfl (fun wx hw hF => ?_) ?_ ?_
          rotate_left 1
          focus
            go_simp; (with_reducible refine (HC.out _).mono ?_); exact (fun e w' ⟨h1, h2⟩ => by subst h1; exact ⟨rfl, h2⟩)
          focus (simp only [Act.put, List.setIfInBounds_toArray, List.set_cons_succ, List.set_cons_zero]; try rfl)
          repeat (first
            | (refine Chain.step (v := ?_) (a' := ?_) rfl rfl rfl ?_ ?_ ?_
               rotate_left 2
               focus (intro w; go_simp; try with_reducible rfl)
               focus (simp only [Act.put, List.setIfInBounds_toArray, List.set_cons_succ, List.set_cons_zero]; try rfl))
            | (refine Chain.skip (a' := ?_) rfl rfl rfl ?_ ?_
               rotate_left 1
               focus (simp only [Act.put, List.setIfInBounds_toArray, List.set_cons_succ, List.set_cons_zero]; try rfl)))
          refine Chain.end_ (fun wz hwz _ => ?_)
          have hR2 := HR.out.below hwz
          have HC1 := Lib.hid (HM.out hlz)
          clear HAT HAT1 HR HC hwz HN HM HC0
          go_wp2_with fail
          go_roundw
          case rel => exact ⟨s, q, rfl, rfl, by omega, by omega, hlos, HC1, hR2⟩
          case measure => simp [intOf]; omega
        · have hlz0 := hlz
          clear hlz0
          refine wp_region_facts [(6, (isV (.agg #[.int .i64 X.1, .int .u64 (X.2 : Nat)]), noFact)), (10, (isV (.agg #[.int .i64 Y.1, .int .u64 (Y.2 : Nat)]), noFact)), (11, (isV (.int .i64 Z), noFact))] (by kernel_rfl) 220 (by kernel_rfl) rfl ?_ ?_ ?_
          · apply lookup_ne
            simp only [List.forall_mem_cons, List.not_mem_nil, false_imp_iff, implies_true, and_true]
            exact ⟨⟨_, rfl⟩, ⟨_, rfl⟩, ⟨_, rfl⟩⟩
          · apply lookup_st
            simp only [List.forall_mem_cons, List.not_mem_nil, false_imp_iff, implies_true, and_true]
            refine ⟨?_, ?_, ?_⟩
            · exact fun _ _ _ _ _ => trivial
            · exact fun _ _ _ _ _ => trivial
            · exact fun _ _ _ _ _ => trivial
          repeat (first
            | (refine Chain.step (v := ?_) (a' := ?_) rfl rfl rfl ?_ ?_ ?_
               rotate_left 2
               focus (intro w; go_simp; try with_reducible rfl)
               focus (simp only [Act.put, List.setIfInBounds_toArray, List.set_cons_succ, List.set_cons_zero]; try rfl))
            | (refine Chain.skip (a' := ?_) rfl rfl rfl ?_ ?_
               rotate_left 1
               focus (simp only [Act.put, List.setIfInBounds_toArray, List.set_cons_succ, List.set_cons_zero]; try rfl)))
          refine Chain.call' (a' := ?_) _ rfl rfl rfl rfl (fun wx hw hF => ?_) ?_ ?_
          rotate_left 1
          focus
            obtain ⟨a1, a2, _, _⟩ := HAT.out wx hw
            go_simp
            first | exact ⟨rfl, Below.refl _ _⟩ | exact Below.refl _ _
          focus (simp only [Act.put, List.setIfInBounds_toArray, List.set_cons_succ, List.set_cons_zero]; try rfl)
          repeat (first
            | (refine Chain.step (v := ?_) (a' := ?_) rfl rfl rfl ?_ ?_ ?_
               rotate_left 2
               focus (intro w; go_simp; try with_reducible rfl)
               focus (simp only [Act.put, List.setIfInBounds_toArray, List.set_cons_succ, List.set_cons_zero]; try rfl))
            | (refine Chain.skip (a' := ?_) rfl rfl rfl ?_ ?_
               rotate_left 1
               focus (simp only [Act.put, List.setIfInBounds_toArray, List.set_cons_succ, List.set_cons_zero]; try rfl)))
          refine Chain.call' (a' := ?_) _ rfl rfl rfl rfl (fun wx hw hF => ?_) ?_ ?_
          rotate_left 1
          focus
            obtain ⟨a1, a2, _, _⟩ := HAT1.out wx hw
            go_simp
            first | exact ⟨rfl, Below.refl _ _⟩ | exact Below.refl _ _
          focus (simp only [Act.put, List.setIfInBounds_toArray, List.set_cons_succ, List.set_cons_zero]; try rfl)
          repeat (first
            | (refine Chain.step (v := ?_) (a' := ?_) rfl rfl rfl ?_ ?_ ?_
               rotate_left 2
               focus (intro w; go_simp; try with_reducible rfl)
               focus (simp only [Act.put, List.setIfInBounds_toArray, List.set_cons_succ, List.set_cons_zero]; try rfl))
            | (refine Chain.skip (a' := ?_) rfl rfl rfl ?_ ?_
               rotate_left 1
               focus (simp only [Act.put, List.setIfInBounds_toArray, List.set_cons_succ, List.set_cons_zero]; try rfl)))
          refine Chain.call' (a' := ?_) _ rfl rfl rfl rfl (fun wx hw hF => ?_) ?_ ?_
          rotate_left 1
          focus
            go_simp; (with_reducible refine (HC.out _).mono ?_); exact (fun e w' ⟨h1, h2⟩ => by subst h1; exact ⟨rfl, h2⟩)
          focus (simp only [Act.put, List.setIfInBounds_toArray, List.set_cons_succ, List.set_cons_zero]; try rfl)
          repeat (first
            | (refine Chain.step (v := ?_) (a' := ?_) rfl rfl rfl ?_ ?_ ?_
               rotate_left 2
               focus (intro w; go_simp; try with_reducible rfl)
               focus (simp only [Act.put, List.setIfInBounds_toArray, List.set_cons_succ, List.set_cons_zero]; try rfl))
            | (refine Chain.skip (a' := ?_) rfl rfl rfl ?_ ?_
               rotate_left 1
               focus (simp only [Act.put, List.setIfInBounds_toArray, List.set_cons_succ, List.set_cons_zero]; try rfl)))
          refine Chain.end_ (fun wz hwz _ => ?_)
          have hR2 := HR.out.below hwz
          have HC1 := Lib.hid (HN.out hlz)
          clear HAT HAT1 HR HC hwz HN HM HC0
          go_wp2_with fail
          go_roundw
          case rel => exact ⟨q + 1, r, by go_num, rfl, by omega, hrh, by omega, HC1, hR2⟩
          case measure => simp [intOf]; omega
      · obtain rfl : s = r := by omega
        obtain ⟨f1, f2, f3, f4, f5, f6, K1, K2⟩ := HC0.out.found (by omega) (by omega) HMD.out HB.out H1.out H2.out HT.out
        obtain ⟨e, he⟩ : ∃ e, e = md + m - s := ⟨_, rfl⟩
        rw [← he] at f4 f5 f6 K1 K2
        have hG := halved f1 f2 f4 f5 f6 H1.out H2.out HT.out K1 K2
        have hGf := rot_fst s m e F
        obtain ⟨G, hGd⟩ : ∃ G, G = rot s m e F := ⟨_, rfl⟩
        rw [← hGd] at hG hGf
        have HGF : Hid (rot s m e f0 = fun k => (G k).1) := Lib.hid (by rw [HF0.out]; exact hGf.symm)
        have HGN : Hid (¬ (s < m ∧ m < e) → f0 = fun k => (G k).1) := Lib.hid (fun hn => by rw [HF0.out, hG.n0 hn])
        have HG := Lib.hid hG
        have v1 : (nn : Int) - (s : Int) = (e : Int) := by have := HNN.out; omega
        have v2 : IntKind.i64.wrap ((nn : Int) - (s : Int)) = (e : Int) := by rw [IntKind.wrap_i64]; omega
        have hme : md ≤ e := by omega
        clear K1 K2 hG hGf hGd HC0 f6 he hgo
        have hthird : Hid (∀ (G1 : Nat → Tg) (w3 : World), PermOn x md G G1 → Sor lt2 x md G1 → Rw W b o n c (fun k => (G1 k).1) w3 → (¬ (md < e ∧ e < y) → RetMg W b o n c x y F (.returned (.tuple #[])) w3) ∧
            (md < e → e < y → Calls Tryz.prog 78 #[.slice (some ⟨b, o, none⟩) n c, .int .i64 (md : Nat), .int .i64 (e : Nat), .int .i64 (y : Nat), fvS] w3 (RetMg W b o n c x y F))) := Lib.hid (fun G1 w3 p1 s1 hr => by
          obtain ⟨q1, q2, q3, q4⟩ := HG.out.second p1 hme f5
          refine ⟨fun hn => ?_, fun k1 k2 => ?_⟩
          · obtain ⟨z1, z2⟩ := HG.out.whole hxmd (by omega) p1 s1 (PermOn.refl _ _ _) (q4 hn)
            exact ⟨rfl, G1, z1, z2, hr⟩
          · refine (HIH.out md e y G1 w3 (by omega) hr k1 k2 hy q1 q2 q3).mono ?_
            rintro en w4 ⟨rfl, G2, p2, s2, hr2⟩
            obtain ⟨z1, z2⟩ := HG.out.whole hxmd (by omega) p1 s1 p2 s2
            exact ⟨rfl, G2, z1, z2, hr2⟩)
        have hsecond : Hid (∀ (w2 : World), Rw W b o n c (fun k => (G k).1) w2 → x < s → s < md → Calls Tryz.prog 78 #[.slice (some ⟨b, o, none⟩) n c, .int .i64 (x : Nat), .int .i64 (s : Nat), .int .i64 (md : Nat), fvS] w2 (RetMg W b o n c x md G)) := Lib.hid (fun w2 hr k1 k2 => HIH.out x s md G w2 (by omega) hr k1 k2 (by omega) HG.out.a1 HG.out.a2 HG.out.t1)
        by_cases d0 : s < m ∧ m < e
        · have hrot := HRT.out s m e f0 wr hR d0.1 d0.2 (by omega)
          rw [HGF.out] at hrot
          have HROT := Lib.hid hrot
          have g1 : (s : Int) < (m : Int) := by omega
          have g2 : (m : Int) < (e : Int) := by omega
          clear hrot hR d0
          go_wp2_with fail
          refine HROT.out.mono ?_
          rintro en w2 ⟨rfl, hR2⟩
          clear HROT g1 g2
          by_cases d1 : x < s ∧ s < md
          · have g1 : (x : Int) < (s : Int) := by omega
            have g2 : (s : Int) < (md : Int) := by omega
            have hcl := hsecond.out w2 hR2 d1.1 d1.2
            have HCL := Lib.hid hcl
            clear hcl hR2 d1
            go_wp2_with fail
            refine HCL.out.mono ?_
            rintro en w3 ⟨rfl, G1, p1, s1, hR3⟩
            have hth := hthird.out G1 w3 p1 s1 hR3
            have HTH := Lib.hid hth
            clear HCL g1 g2 hth p1 s1 hR3
            by_cases d3 : md < e ∧ e < y
            · have g1 : (md : Int) < (e : Int) := by omega
              have g2 : (e : Int) < (y : Int) := by omega
              have hcl := HTH.out.2 d3.1 d3.2
              have HCL := Lib.hid hcl
              clear hcl
              go_wp2_with fail
              refine HCL.out.mono ?_
              rintro en w4 ⟨rfl, hfin⟩
              have HFIN := Lib.hid hfin
              clear hfin
              go_wp2_with fail
              go_end0
              exact ⟨rfl, HFIN.out⟩
            · have hfin := HTH.out.1 d3
              have HFIN := Lib.hid hfin
              clear hfin
              by_cases d4 : md < e
              · have g1 : (md : Int) < (e : Int) := by omega
                have g2 : ¬ (e : Int) < (y : Int) := by omega
                go_wp2_with fail
                go_end0
                exact HFIN.out
              · have g1 : ¬ (md : Int) < (e : Int) := by omega
                go_wp2_with fail
                go_end0
                exact HFIN.out
          · have hth := hthird.out G w2 (PermOn.refl _ _ _) (HG.out.n1 d1) hR2
            have HTH := Lib.hid hth
            clear hth hR2
            by_cases d2 : x < s
            · have g1 : (x : Int) < (s : Int) := by omega
              have g2 : ¬ (s : Int) < (md : Int) := by omega
              go_upto_region 43 with fail
              clear g1 g2 d1 d2
              by_cases d3 : md < e ∧ e < y
              · have g1 : (md : Int) < (e : Int) := by omega
                have g2 : (e : Int) < (y : Int) := by omega
                have hcl := HTH.out.2 d3.1 d3.2
                have HCL := Lib.hid hcl
                clear hcl
                go_wp2_with fail
                refine HCL.out.mono ?_
                rintro en w4 ⟨rfl, hfin⟩
                have HFIN := Lib.hid hfin
                clear hfin
                go_wp2_with fail
                go_end0
                exact ⟨rfl, HFIN.out⟩
              · have hfin := HTH.out.1 d3
                have HFIN := Lib.hid hfin
                clear hfin
                by_cases d4 : md < e
                · have g1 : (md : Int) < (e : Int) := by omega
                  have g2 : ¬ (e : Int) < (y : Int) := by omega
                  go_wp2_with fail
                  go_end0
                  exact HFIN.out
                · have g1 : ¬ (md : Int) < (e : Int) := by omega
                  go_wp2_with fail
                  go_end0
                  exact HFIN.out
            · have g1 : ¬ (x : Int) < (s : Int) := by omega
              go_upto_region 43 with fail
              clear g1 d1 d2
              by_cases d3 : md < e ∧ e < y
              · have g1 : (md : Int) < (e : Int) := by omega
                have g2 : (e : Int) < (y : Int) := by omega
                have hcl := HTH.out.2 d3.1 d3.2
                have HCL := Lib.hid hcl
                clear hcl
                go_wp2_with fail
                refine HCL.out.mono ?_
                rintro en w4 ⟨rfl, hfin⟩
                have HFIN := Lib.hid hfin
                clear hfin
                go_wp2_with fail
                go_end0
                exact ⟨rfl, HFIN.out⟩
              · have hfin := HTH.out.1 d3
                have HFIN := Lib.hid hfin
                clear hfin
                by_cases d4 : md < e
                · have g1 : (md : Int) < (e : Int) := by omega
                  have g2 : ¬ (e : Int) < (y : Int) := by omega
                  go_wp2_with fail
                  go_end0
                  exact HFIN.out
                · have g1 : ¬ (md : Int) < (e : Int) := by omega
                  go_wp2_with fail
                  go_end0
                  exact HFIN.out
        · have hR2 : Rw W b o n c (fun k => (G k).1) wr := by rw [← HGN.out d0]; exact hR
          clear hR
          obtain ⟨w2, hw2⟩ : ∃ w2, w2 = wr := ⟨_, rfl⟩
          rw [← hw2] at hR2
          by_cases d1 : s < m
          · have g1 : (s : Int) < (m : Int) := by omega
            have g2 : ¬ (m : Int) < (e : Int) := by omega
            go_upto_region 41 with fail
            clear g1 g2 d0 d1
            subst hw2
            by_cases d1 : x < s ∧ s < md
            · have g1 : (x : Int) < (s : Int) := by omega
              have g2 : (s : Int) < (md : Int) := by omega
              have hcl := hsecond.out w2 hR2 d1.1 d1.2
              have HCL := Lib.hid hcl
              clear hcl hR2 d1
              go_wp2_with fail
              refine HCL.out.mono ?_
              rintro en w3 ⟨rfl, G1, p1, s1, hR3⟩
              have hth := hthird.out G1 w3 p1 s1 hR3
              have HTH := Lib.hid hth
              clear HCL g1 g2 hth p1 s1 hR3
              by_cases d3 : md < e ∧ e < y
              · have g1 : (md : Int) < (e : Int) := by omega
                have g2 : (e : Int) < (y : Int) := by omega
                have hcl := HTH.out.2 d3.1 d3.2
                have HCL := Lib.hid hcl
                clear hcl
                go_wp2_with fail
                refine HCL.out.mono ?_
                rintro en w4 ⟨rfl, hfin⟩
                have HFIN := Lib.hid hfin
                clear hfin
                go_wp2_with fail
                go_end0
                exact ⟨rfl, HFIN.out⟩
              · have hfin := HTH.out.1 d3
                have HFIN := Lib.hid hfin
                clear hfin
                by_cases d4 : md < e
                · have g1 : (md : Int) < (e : Int) := by omega
                  have g2 : ¬ (e : Int) < (y : Int) := by omega
                  go_wp2_with fail
                  go_end0
                  exact HFIN.out
                · have g1 : ¬ (md : Int) < (e : Int) := by omega
                  go_wp2_with fail
                  go_end0
                  exact HFIN.out
            · have hth := hthird.out G w2 (PermOn.refl _ _ _) (HG.out.n1 d1) hR2
              have HTH := Lib.hid hth
              clear hth hR2
              by_cases d2 : x < s
              · have g1 : (x : Int) < (s : Int) := by omega
                have g2 : ¬ (s : Int) < (md : Int) := by omega
                go_upto_region 43 with fail
                clear g1 g2 d1 d2
                by_cases d3 : md < e ∧ e < y
                · have g1 : (md : Int) < (e : Int) := by omega
                  have g2 : (e : Int) < (y : Int) := by omega
                  have hcl := HTH.out.2 d3.1 d3.2
                  have HCL := Lib.hid hcl
                  clear hcl
                  go_wp2_with fail
                  refine HCL.out.mono ?_
                  rintro en w4 ⟨rfl, hfin⟩
                  have HFIN := Lib.hid hfin
                  clear hfin
                  go_wp2_with fail
                  go_end0
                  exact ⟨rfl, HFIN.out⟩
                · have hfin := HTH.out.1 d3
                  have HFIN := Lib.hid hfin
                  clear hfin
                  by_cases d4 : md < e
                  · have g1 : (md : Int) < (e : Int) := by omega
                    have g2 : ¬ (e : Int) < (y : Int) := by omega
                    go_wp2_with fail
                    go_end0
                    exact HFIN.out
                  · have g1 : ¬ (md : Int) < (e : Int) := by omega
                    go_wp2_with fail
                    go_end0
                    exact HFIN.out
              · have g1 : ¬ (x : Int) < (s : Int) := by omega
                go_upto_region 43 with fail
                clear g1 d1 d2
                by_cases d3 : md < e ∧ e < y
                · have g1 : (md : Int) < (e : Int) := by omega
                  have g2 : (e : Int) < (y : Int) := by omega
                  have hcl := HTH.out.2 d3.1 d3.2
                  have HCL := Lib.hid hcl
                  clear hcl
                  go_wp2_with fail
                  refine HCL.out.mono ?_
                  rintro en w4 ⟨rfl, hfin⟩
                  have HFIN := Lib.hid hfin
                  clear hfin
                  go_wp2_with fail
                  go_end0
                  exact ⟨rfl, HFIN.out⟩
                · have hfin := HTH.out.1 d3
                  have HFIN := Lib.hid hfin
                  clear hfin
                  by_cases d4 : md < e
                  · have g1 : (md : Int) < (e : Int) := by omega
                    have g2 : ¬ (e : Int) < (y : Int) := by omega
                    go_wp2_with fail
                    go_end0
                    exact HFIN.out
                  · have g1 : ¬ (md : Int) < (e : Int) := by omega
                    go_wp2_with fail
                    go_end0
                    exact HFIN.out
          · have g1 : ¬ (s : Int) < (m : Int) := by omega
            go_upto_region 41 with fail
            clear g1 d0 d1
            subst hw2
            by_cases d1 : x < s ∧ s < md
            · have g1 : (x : Int) < (s : Int) := by omega
              have g2 : (s : Int) < (md : Int) := by omega
              have hcl := hsecond.out w2 hR2 d1.1 d1.2
              have HCL := Lib.hid hcl
              clear hcl hR2 d1
              go_wp2_with fail
              refine HCL.out.mono ?_
              rintro en w3 ⟨rfl, G1, p1, s1, hR3⟩
              have hth := hthird.out G1 w3 p1 s1 hR3
              have HTH := Lib.hid hth
              clear HCL g1 g2 hth p1 s1 hR3
              by_cases d3 : md < e ∧ e < y
              · have g1 : (md : Int) < (e : Int) := by omega
                have g2 : (e : Int) < (y : Int) := by omega
                have hcl := HTH.out.2 d3.1 d3.2
                have HCL := Lib.hid hcl
                clear hcl
                go_wp2_with fail
                refine HCL.out.mono ?_
                rintro en w4 ⟨rfl, hfin⟩
                have HFIN := Lib.hid hfin
                clear hfin
                go_wp2_with fail
                go_end0
                exact ⟨rfl, HFIN.out⟩
              · have hfin := HTH.out.1 d3
                have HFIN := Lib.hid hfin
                clear hfin
                by_cases d4 : md < e
                · have g1 : (md : Int) < (e : Int) := by omega
                  have g2 : ¬ (e : Int) < (y : Int) := by omega
                  go_wp2_with fail
                  go_end0
                  exact HFIN.out
                · have g1 : ¬ (md : Int) < (e : Int) := by omega
                  go_wp2_with fail
                  go_end0
                  exact HFIN.out
            · have hth := hthird.out G w2 (PermOn.refl _ _ _) (HG.out.n1 d1) hR2
              have HTH := Lib.hid hth
              clear hth hR2
              by_cases d2 : x < s
              · have g1 : (x : Int) < (s : Int) := by omega
                have g2 : ¬ (s : Int) < (md : Int) := by omega
                go_upto_region 43 with fail
                clear g1 g2 d1 d2
                by_cases d3 : md < e ∧ e < y
                · have g1 : (md : Int) < (e : Int) := by omega
                  have g2 : (e : Int) < (y : Int) := by omega
                  have hcl := HTH.out.2 d3.1 d3.2
                  have HCL := Lib.hid hcl
                  clear hcl
                  go_wp2_with fail
                  refine HCL.out.mono ?_
                  rintro en w4 ⟨rfl, hfin⟩
                  have HFIN := Lib.hid hfin
                  clear hfin
                  go_wp2_with fail
                  go_end0
                  exact ⟨rfl, HFIN.out⟩
                · have hfin := HTH.out.1 d3
                  have HFIN := Lib.hid hfin
                  clear hfin
                  by_cases d4 : md < e
                  · have g1 : (md : Int) < (e : Int) := by omega
                    have g2 : ¬ (e : Int) < (y : Int) := by omega
                    go_wp2_with fail
                    go_end0
                    exact HFIN.out
                  · have g1 : ¬ (md : Int) < (e : Int) := by omega
                    go_wp2_with fail
                    go_end0
                    exact HFIN.out
              · have g1 : ¬ (x : Int) < (s : Int) := by omega
                go_upto_region 43 with fail
                clear g1 d1 d2
                by_cases d3 : md < e ∧ e < y
                · have g1 : (md : Int) < (e : Int) := by omega
                  have g2 : (e : Int) < (y : Int) := by omega
                  have hcl := HTH.out.2 d3.1 d3.2
                  have HCL := Lib.hid hcl
                  clear hcl
                  go_wp2_with fail
                  refine HCL.out.mono ?_
                  rintro en w4 ⟨rfl, hfin⟩
                  have HFIN := Lib.hid hfin
                  clear hfin
                  go_wp2_with fail
                  go_end0
                  exact ⟨rfl, HFIN.out⟩
                · have hfin := HTH.out.1 d3
                  have HFIN := Lib.hid hfin
                  clear hfin
                  by_cases d4 : md < e
                  · have g1 : (md : Int) < (e : Int) := by omega
                    have g2 : ¬ (e : Int) < (y : Int) := by omega
                    go_wp2_with fail
                    go_end0
                    exact HFIN.out
                  · have g1 : ¬ (md : Int) < (e : Int) := by omega
                    go_wp2_with fail
                    go_end0
                    exact HFIN.out
end Go.Proofs.YtjklcojnbcemoaaGreatDoor
