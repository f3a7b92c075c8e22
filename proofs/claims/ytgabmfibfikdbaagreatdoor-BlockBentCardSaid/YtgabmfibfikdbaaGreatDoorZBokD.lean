/-
  Layer 16: the walk of Entries.
-/
import Derived.Test.YtgabmfibfikdbaaGreatDoorZBokC
import Derived.Test.YtgabmfibfikdbaaGreatDoorZFrmN
import Derived.Test.YtgabmfibfikdbaaGreatDoorZLabE
import Derived.Deep.QuietTactic
import Derived.BigQuiet

namespace Go.Proofs.YtgabmfibfikdbaaGreatDoor
open Go.RowKit Go.Bar Go.Bar.Leb Go.Bar.Frm Go.Bar.Lab Go.Bar.Xor Go.Bar.Mrg Go.Bar.Met Go.Bar.Bok

/-- entries, an error; in a buffer of the call's own -/
def RetEs (T Tp : TypeId) (w : World) (R : List En × Nat) (e : Ending) (w' : World) : Prop := ∃ v l, e = .returned (.tuple #[v, .int .i64 (R.2 : Nat)]) ∧ DEs w w w w' T Tp v l ∧ l.map plE = R.1
theorem RetEs.no {T Tp : TypeId} {w w' : World} {e : Nat} (h : Below w.heap.size w w') : RetEs T Tp w ([], e) (.returned (.tuple #[.slice none 0 0, .int .i64 (e : Nat)])) w' := ⟨_, [], rfl, DEs.nil h (Below.refl _ _) _ _, rfl⟩
theorem entriesR_bad {s : List UInt8} {e : Nat} (h : (only s 5).2 = e) (he : e ≠ 0) : entriesR s = ([], e) := by
  unfold entriesR
  rw [h, if_pos he]
theorem entriesR_ok' {s d : List UInt8} (h : only s 5 = (d, 0)) : entriesR s = ensD d := by
  unfold entriesR
  rw [h]
  simp
theorem ensD_bad {d r : List UInt8} {n e : Nat} (h : takeMost d 10000 = (n, r, e)) (he : e ≠ 0) : ensD d = ([], e) := by
  unfold ensD
  rw [h]
  simp only
  rw [if_pos he]
theorem ensD_of {d r : List UInt8} {n : Nat} (h : takeMost d 10000 = (n, r, 0)) {l : List En} {r' : List UInt8} {e : Nat} (ht : tEns n r [] = (l, r', e)) : ensD d = if e ≠ 0 then ([], e) else if r' ≠ [] then ([], 3) else (l, 0) := by
  unfold ensD
  rw [h]
  simp only
  rw [if_neg (by omega), ht]
theorem early_nil (y : En) : ¬ Bok.early [] y := fun ⟨p, h, _⟩ => by simp at h
theorem early_at {l : List Ev} {m : Nat} {p : Ev} {y : En} (hl : l.length = m + 1) (hp : l[m]? = some p) : Bok.early (l.map plE) y ↔ 0 ≤ cmpL p.ls y.ls := by
  have e : (l.map plE).getLast? = some (plE p) := by
    rw [List.getLast?_eq_getElem?, List.length_map, hl, List.getElem?_map]
    show (l[m]?).map plE = _
    rw [hp]; rfl
  unfold Bok.early
  rw [e]
  exact ⟨fun ⟨q, h1, h2⟩ => by injection h1 with h1; rw [← h1] at h2; exact h2, fun h => ⟨_, rfl, h⟩⟩
theorem DEs.fr {B W0 W w w' : World} {T Tp T' : TypeId} {v : Value} {l : List Ev} {X : Nat} {cur : Array Value} (h : DEs B W0 W w T Tp v l) (hf : Fr (fun k _ => k = X) w w') (hb : Blk w X T' cur) (hne : Tp ≠ T') (hX : W.heap.size ≤ X) (hv : v.ownBlock ≠ some X) : DEs B W0 W w' T Tp v l := by
  have hX0 : W0.heap.size ≤ X := Nat.le_trans h.b.size hX
  refine ⟨⟨hf.buf h.n.buf (fun k i hk e => hv (by rw [hk]; exact congrArg some e)), h.n.below.trans (hf.below h.n.below.size (fun k i hk e => by have e : k = X := e; omega)), h.n.new⟩, h.b, fun x hx => ?_⟩
  exact (h.d x hx).imp id fun h => h.fr_ne hb hne hX0 hf

set_option maxHeartbeats 16000000 in
set_option maxRecDepth 10000 in
theorem kentries_any (s : List UInt8) (w : World) (hs : s.length ≤ 1000000000) :
    Calls Tryz.prog 10 #[.string (bs s)] w (RetEs 45 128 w (entriesR s)) := by
  obtain ⟨kd, d, r, er, hn⟩ : ∃ k d r e, Frm.next s = ((k, d), r, e) := ⟨_, _, _, _, rfl⟩
  have hc : ∀ w, Calls Tryz.prog 35 #[.string (bs s)] w (RetBelow w (.tuple #[.agg #[.int .u8 kd.toNat, .string (bs d)], .string (bs r), .int .i64 er])) := fun w => by
    have := next_any s w (by omega)
    rw [hn] at this
    exact this
  have ho : only s 5 = (d, if er = 0 ∧ (r ≠ [] ∨ kd ≠ 5) then 3 else er) := by
    unfold only
    rw [hn]
  have hdl : er = 0 → d.length ≤ 1048576 := fun he => by
    have := (next_one s (by rw [hn]; exact he)).2
    rw [hn] at this
    exact this
  obtain ⟨R, hR⟩ : ∃ R, R = entriesR s := ⟨_, rfl⟩
  rw [← hR]
  have HC := Lib.hid hc
  have HR := Lib.hid hR
  have HO := Lib.hid ho
  clear hc hn hR ho
  by_cases h0 : er = 0
  · subst h0
    have hdl := hdl rfl
    by_cases h1 : r = []
    · subst h1
      by_cases h2 : kd = 5
      · subst h2
        have hes : R = ensD d := by
          rw [HR.out]
          exact entriesR_ok' (by rw [HO.out]; simp)
        obtain ⟨n0, r0, e0, htm⟩ : ∃ n r e, takeMost d 10000 = (n, r, e) := ⟨_, _, _, rfl⟩
        have htc := fun w => takeMost_of (bs d) 10000 htm w (by rw [bs_size]; unfold maxLen; omega) (by omega) (by omega)
        have hle := (takeMost_prop d 10000 (by omega)).2.1
        rw [htm] at hle
        have hn0 : e0 = 0 → n0 ≤ 10000 := fun he => by
          have := takeMost_le d 10000 (by rw [show ((10000 : Nat) : Int) = 10000 from rfl, htm]; exact he)
          rw [show ((10000 : Nat) : Int) = 10000 from rfl, htm] at this
          exact this
        have HES := Lib.hid hes
        have HTM := Lib.hid htm
        have HTC := Lib.hid htc
        dsimp only at hle
        clear hes htm htc HO HR
        go_enter Tryz.func10, Tryz.ntmps10
        go_wp2_with fail
        refine (HC.out _).mono ?_
        rintro e w1 ⟨rfl, hb1⟩
        have HB1 := Lib.hid (below_trans hb1 (below_al w1 (.cells #[.int .u8 ((5 : UInt8).toNat : Nat), .string (bs d)] 100)))
        clear hb1 HC
        go_wp2_with fail
        refine (HTC.out _).mono ?_
        rintro e w2 ⟨rfl, q2, rfl⟩
        have HB2 := Lib.hid (below_trans HB1.out (below_draws _ q2))
        clear HB1 HTC
        have hst : (e0 = 0 ∧ tEns n0 r0 [] = tEns n0 r0 (([] : List Ev).map plE)) ∨ (e0 ≠ 0 ∧ R = ([], e0)) := by
          by_cases he0 : e0 = 0
          · exact .inl ⟨he0, rfl⟩
          · exact .inr ⟨he0, by rw [HES.out]; exact ensD_bad HTM.out he0⟩
        have HST := Lib.hid hst
        have HE0 := Lib.hid hn0
        have hens : ∀ (l : List En) (r' : List UInt8) (e : Nat), e0 = 0 → tEns n0 r0 [] = (l, r', e) → R = if e ≠ 0 then ([], e) else if r' ≠ [] then ([], 3) else (l, 0) := fun l r' e he ht => by
          subst he
          rw [HES.out]
          exact ensD_of HTM.out ht
        have HENS := Lib.hid hens
        have hds0 := DEs.nil (B := w) HB2.out (Below.refl w.heap.size w) 45 128
        have HDS0 := Lib.hid hds0
        have hr0l : r0.length ≤ 1000000000 := by omega
        clear hst hn0 hens hds0 HES HTM
        go_upto_region 8 with fail
        go_loopw [7, 8, 6, 9] (fun nv dv ev ov wr => ∃ (m : Nat) (r' : List UInt8) (l : List Ev) (e2 : Nat), nv = .int .i64 m ∧ dv = .string (bs r') ∧ ev = .int .i64 (e2 : Nat) ∧ Hid (DEs w w w wr 45 128 ov l) ∧ Hid (∀ u, ov.ownBlock = some u → u < wr.heap.size) ∧ Hid (e2 = 0 → l.length + m ≤ 10000) ∧ r'.length ≤ 1000000000 ∧
          Hid ((e2 = 0 ∧ e0 = 0 ∧ tEns n0 r0 [] = tEns m r' (l.map plE)) ∨ (e2 ≠ 0 ∧ R = ([], e2)))) (fun nv _ _ _ _ => (intOf nv).toNat)
        case atStart => exact ⟨n0, r0, [], e0, rfl, rfl, rfl, HDS0, Lib.hid (fun u hu => by simp [Value.ownBlock] at hu), Lib.hid (fun he => by have := HE0.out he; simpa using this), hr0l, Lib.hid (by
          rcases HST.out with ⟨h1, h2⟩ | h
          · exact .inl ⟨h1, h1, h2⟩
          · exact .inr h)⟩
        case round =>
          obtain ⟨m, r', l, e2, rfl, rfl, rfl, HD, HOW, HM, hrl, HS⟩ := hrel
          clear HDS0 HST HE0
          have hbw := HD.out.n.below
          have HBW := Lib.hid hbw
          obtain ⟨oA, oc, rfl, hoc⟩ := HD.out.n.buf.shape
          rcases HS.out with ⟨h1, h2, h3⟩ | ⟨h1, h2⟩
          · subst h1
            have HT := Lib.hid h3
            have hlm := HM.out rfl
            have H2 := Lib.hid h2
            clear h2 h3 HS HM
            rcases m with _ | m
            · have hR := HENS.out (l.map plE) r' 0 H2.out (by rw [HT.out]; rfl)
              by_cases hr : r' = []
              · subst hr
                rw [if_neg (by omega), if_neg (by simp)] at hR
                have HRES := Lib.hid hR
                have HDX := Lib.hid HD.out
                clear hR HT hbw
                go_wp2_with fail
                go_ret2
                rw [HRES.out]
                exact ⟨_, l, rfl, HDX.out, rfl⟩
              · rw [if_neg (by omega), if_pos hr] at hR
                have hb : r'.isEmpty = false := by cases r'; exact absurd rfl hr; rfl
                have hb2 : (r' != []) = true := by rw [bne_iff_ne]; exact hr
                have HRES := Lib.hid hR
                clear hR HT hbw hr HD
                go_wp2_with fail
                go_ret2
                rw [HRES.out]
                exact RetEs.no HBW.out
            · have hm1 : (0 : Int) < ((m + 1 : Nat) : Int) := by omega
              have htk := fun w' => ktake_any r' w' (by omega)
              obtain ⟨y, r2, e3, hte⟩ : ∃ y r e, tEn r' = (y, r, e) := ⟨_, _, _, rfl⟩
              have hle2 := tEn_le r'
              rw [hte] at hle2 htk
              dsimp only at hle2
              have htn : tEns (m + 1) r' (l.map plE) = if e3 ≠ 0 then ([], [], e3) else if Bok.early (l.map plE) y then ([], [], 3) else tEns m r2 (l.map plE ++ [y]) := by rw [tEns, hte]
              have HTN := Lib.hid htn
              have HTK := Lib.hid htk
              have X1 := Blk.new wr #[.slice none 0 0, .int .i64 0, .int .i64 0, .int .i64 0, .int .i64 0] 45
              have hb1 := below_al wr (.cells #[.slice none 0 0, .int .i64 0, .int .i64 0, .int .i64 0, .int .i64 0] 45)
              have HD1 := Lib.hid (HD.out.below hb1)
              have HB1 := Lib.hid (below_trans hbw hb1)
              clear hte htk htn HD hbw hb1
              go_upto_region 11 with fail
              obtain ⟨wb, hwb⟩ : ∃ wb, wb = wr.alloc (.cells #[.slice none 0 0, .int .i64 0, .int .i64 0, .int .i64 0, .int .i64 0] 45) := ⟨_, rfl⟩
              obtain ⟨X, hX⟩ : ∃ X, X = wr.heap.size := ⟨_, rfl⟩
              have hXw : w.heap.size ≤ X := by rw [hX]; exact HBW.out.size
              have HOX : Hid ((Value.slice oA l.length oc).ownBlock ≠ some X) := Lib.hid (fun e => by have := HOW.out X e; omega)
              rw [← hwb] at X1 HD1 HB1 ⊢
              rw [← hX] at X1 ⊢
              clear hwb hX
              go_wp2_with fail
              refine (HTK.out _).mono ?_
              rintro e w3 ⟨x, rfl, hxy, hnx⟩
              dsimp only at hxy ⊢
              have X3 := X1.below hnx.below
              have HD3 := Lib.hid (HD1.out.below hnx.below)
              have HB3 := Lib.hid (below_trans HB1.out hnx.below)
              have HN3 := Lib.hid (hnx.after HB1.out)
              obtain ⟨x0, x1, x2, x3, x4⟩ := X3.c5
              have z0 := X3.free 0
              have z1 := X3.free 1
              have z2 := X3.free 2
              have z3 := X3.free 3
              have z4 := X3.free 4
              have HXY := Lib.hid hxy
              clear X1 HD1 HB1 hnx hxy HTK
              by_cases he3 : e3 = 0
              · subst he3
                have hf4 : Fr (fun k _ => k = X) w3 (((((w3.setCell ⟨X, 0, none⟩ (.slice x.la x.ls.length x.lc)).setCell ⟨X, 1, none⟩ (.int .i64 x.fr)).setCell ⟨X, 2, none⟩ (.int .i64 x.n)).setCell ⟨X, 3, none⟩ (.int .i64 x.mn)).setCell ⟨X, 4, none⟩ (.int .i64 x.mx)) :=
                  (((((Fr.refl (fun k _ => k = X) w3).setCell (fun _ => rfl) _).setCell (fun _ => rfl) _).setCell (fun _ => rfl) _).setCell (fun _ => rfl) _).setCell (fun _ => rfl) _
                have X4 := ((((X3.set 0 (.slice x.la x.ls.length x.lc)).set 1 (.int .i64 x.fr)).set 2 (.int .i64 x.n)).set 3 (.int .i64 x.mn)).set 4 (.int .i64 x.mx)
                have hd4 := HD3.out.fr hf4 X3 (by decide) hXw HOX.out
                have hn4 := HN3.out.fr_ne X3 (by decide) hXw hf4
                go_upto_region 13 with fail
                obtain ⟨w4, hw4⟩ : ∃ w4, w4 = (((((w3.setCell ⟨X, 0, none⟩ (.slice x.la x.ls.length x.lc)).setCell ⟨X, 1, none⟩ (.int .i64 x.fr)).setCell ⟨X, 2, none⟩ (.int .i64 x.n)).setCell ⟨X, 3, none⟩ (.int .i64 x.mn)).setCell ⟨X, 4, none⟩ (.int .i64 x.mx)) := ⟨_, rfl⟩
                rw [← hw4] at X4 hd4 hn4 ⊢
                have HX4 : Hid (Blk w4 X 45 #[.slice x.la x.ls.length x.lc, .int .i64 x.fr, .int .i64 x.n, .int .i64 x.mn, .int .i64 x.mx]) := Lib.hid X4
                have HD4 := Lib.hid hd4
                have HN4 := Lib.hid hn4
                clear hw4 X4 hd4 hn4 hf4 X3 HD3 HB3 HN3 x0 x1 x2 x3 x4 z0 z1 z2 z3 z4 HOX HOW
                rcases hlq : l with _ | ⟨y0, ys0⟩
                · subst hlq
                  have HNE := Lib.hid (show ¬ Bok.early (([] : List Ev).map plE) y from early_nil y)
                  rw [List.length_nil] at hoc ⊢
                  go_wp2_with fail
                  go_quiet (fail)
                  have HDD := Lib.hid (HD4.out.below ((Below.refl _ _).drewN' nq))
                  have HNN := Lib.hid (HN4.out.then_below ((Below.refl _ _).drewN' nq))
                  obtain ⟨x0, x1, x2, x3, x4⟩ := (HX4.out.drewN nq).c5
                  have hnb := HDD.out.n
                  go_wp2_with (at_builtin; refine wpList_append_nlit rfl (.tmp 71) (.tmp 73) 25 rfl entry_ty rfl hnb rfl (by simp) rfl (by simp [Value.oneCell']) (by simp only [maxLen]; omega) (by omega) ?_; intro v6 w6 hn6 ha6; have HAP := Lib.hid ha6; clear ha6)
                  have HD6 := Lib.hid ((HDD.out.below (below_al _ (.cells #[.slice x.la x.ls.length x.lc, .int .i64 x.fr, .int .i64 x.n, .int .i64 x.mn, .int .i64 x.mx] 45))).snoc (x := x) (DeepE.below (.inr HNN.out) (below_al _ (.cells #[.slice x.la x.ls.length x.lc, .int .i64 x.fr, .int .i64 x.n, .int .i64 x.mn, .int .i64 x.mx] 45))) hn6 HAP.out (by decide))
                  have HW6 := Lib.hid (hn6.lt (by simp))
                  clear hn6 HAP hnb
                  go_roundw
                  case rel => exact ⟨m, r2, [] ++ [x], 0, by go_num, rfl, rfl, HD6, HW6, Lib.hid (fun _ => by rw [List.length_append]; simp only [List.length_singleton]; omega), by omega, Lib.hid (.inl ⟨rfl, H2.out, by rw [HT.out, HTN.out, if_neg (by omega), if_neg HNE.out, List.map_append, ← HXY.out]; rfl⟩)⟩
                  case measure => simp [intOf]
                · rw [← hlq]
                  obtain ⟨q, hq⟩ : ∃ q, l.length = q + 1 := ⟨ys0.length, by rw [hlq]; rfl⟩
                  obtain ⟨p, hp⟩ : ∃ p, l[q]? = some p := ⟨_, List.getElem?_eq_getElem (by omega)⟩
                  have hes := HD4.out.at_ (HD4.out.n.below)
                  obtain ⟨bo, oo, hoA, hbo, hps, g0, _, _, _, _⟩ := hes.at_ hp
                  subst hoA
                  have hcm := fun w' (hb : Below w4.heap.size w4 w') => lcompare_any _ _ p.ls x.ls w' (hps.below hb) (HN4.out.slice.below hb)
                  obtain ⟨C, hC⟩ : ∃ C, C = cmpL p.ls x.ls := ⟨_, rfl⟩
                  rw [← hC] at hcm
                  have hea := early_at (y := y) hq hp
                  rw [← HXY.out, show (plE x).ls = x.ls from rfl, ← hC] at hea
                  have HCM := Lib.hid hcm
                  have HP0 := Lib.hid g0
                  have HEA := Lib.hid hea
                  have hk0 : (0 : Int) < (l.length : Int) := by omega
                  have hk1 : 0 < l.length := by omega
                  have hk2 : ¬ l = [] := by rw [hlq]; simp
                  have hk3 : decide ((0 : Int) < (l.length : Int)) = true := decide_eq_true hk0
                  have hkw : IntKind.i64.wrap ((l.length : Int) - 1) = (q : Int) := by rw [IntKind.wrap_i64]; omega
                  have hkq : (q : Int) < (l.length : Int) := by omega
                  have hkq0 : (0 : Int) ≤ (q : Int) := by omega
                  clear hcm g0 hea hC hps hes hp hq hlq
                  go_upto_region 14 with fail
                  refine wp_region_facts [(8, (isV (.slice p.la p.ls.length p.lc), noFact)), (10, (isV (.slice x.la x.ls.length x.lc), noFact)), (11, (isV (.int .i64 C), noFact))] (by kernel_rfl) 85 (by kernel_rfl) rfl ?_ ?_ ?_
                  · apply lookup_ne
                    simp only [List.forall_mem_cons, List.not_mem_nil, false_imp_iff, implies_true, and_true]
                    exact ⟨⟨_, rfl⟩, ⟨_, rfl⟩, ⟨_, rfl⟩⟩
                  · apply lookup_st
                    simp only [List.forall_mem_cons, List.not_mem_nil, false_imp_iff, implies_true, and_true]
                    refine ⟨?_, ?_, ?_⟩
                    · exact fun _ _ _ _ _ => trivial
                    · exact fun _ _ _ _ _ => trivial
                    · exact fun _ _ _ _ _ => trivial
                  repeat (first
                    | (refine Chain.step (v := ?_) (a' := ?_) rfl rfl rfl ?_ ?_ ?_
                       rotate_left 2
                       focus (intro w; go_simp; try with_reducible rfl)
                       focus (simp only [Act.put, List.setIfInBounds_toArray, List.set_cons_succ, List.set_cons_zero]; try rfl))
                    | (refine Chain.skip (a' := ?_) rfl rfl rfl ?_ ?_
                       rotate_left 1
                       focus (simp only [Act.put, List.setIfInBounds_toArray, List.set_cons_succ, List.set_cons_zero]; try rfl)))
                  refine Chain.call' (a' := ?_) _ rfl rfl rfl rfl (fun wx hw hF => ?_) ?_ ?_
                  rotate_left 1
                  focus
                    have g0 := (Below.cell hw (p := ⟨bo, oo + q * 5, none⟩) hbo).trans HP0.out
                    go_simp
                    first | exact ⟨rfl, Below.refl _ _⟩ | exact Below.refl _ _
                  focus (simp only [Act.put, List.setIfInBounds_toArray, List.set_cons_succ, List.set_cons_zero]; try rfl)
                  repeat (first
                    | (refine Chain.step (v := ?_) (a' := ?_) rfl rfl rfl ?_ ?_ ?_
                       rotate_left 2
                       focus (intro w; go_simp; try with_reducible rfl)
                       focus (simp only [Act.put, List.setIfInBounds_toArray, List.set_cons_succ, List.set_cons_zero]; try rfl))
                    | (refine Chain.skip (a' := ?_) rfl rfl rfl ?_ ?_
                       rotate_left 1
                       focus (simp only [Act.put, List.setIfInBounds_toArray, List.set_cons_succ, List.set_cons_zero]; try rfl)))
                  refine Chain.call' (a' := ?_) _ rfl rfl rfl rfl (fun wx hw hF => ?_) ?_ ?_
                  rotate_left 1
                  focus
                    obtain ⟨g0, g1, g2, g3, g4⟩ := Blk.c5 (HX4.out.below hw); go_simp; first | exact ⟨rfl, Below.refl _ _⟩ | exact Below.refl _ _
                  focus (simp only [Act.put, List.setIfInBounds_toArray, List.set_cons_succ, List.set_cons_zero]; try rfl)
                  repeat (first
                    | (refine Chain.step (v := ?_) (a' := ?_) rfl rfl rfl ?_ ?_ ?_
                       rotate_left 2
                       focus (intro w; go_simp; try with_reducible rfl)
                       focus (simp only [Act.put, List.setIfInBounds_toArray, List.set_cons_succ, List.set_cons_zero]; try rfl))
                    | (refine Chain.skip (a' := ?_) rfl rfl rfl ?_ ?_
                       rotate_left 1
                       focus (simp only [Act.put, List.setIfInBounds_toArray, List.set_cons_succ, List.set_cons_zero]; try rfl)))
                  refine Chain.call' (a' := ?_) _ rfl rfl rfl rfl (fun wx hw hF => ?_) ?_ ?_
                  rotate_left 1
                  focus
                    go_simp; (with_reducible refine (HCM.out _ hw).mono ?_); exact (fun e w' ⟨h1, h2⟩ => by subst h1; exact ⟨rfl, h2⟩)
                  focus (simp only [Act.put, List.setIfInBounds_toArray, List.set_cons_succ, List.set_cons_zero]; try rfl)
                  repeat (first
                    | (refine Chain.step (v := ?_) (a' := ?_) rfl rfl rfl ?_ ?_ ?_
                       rotate_left 2
                       focus (intro w; go_simp; try with_reducible rfl)
                       focus (simp only [Act.put, List.setIfInBounds_toArray, List.set_cons_succ, List.set_cons_zero]; try rfl))
                    | (refine Chain.skip (a' := ?_) rfl rfl rfl ?_ ?_
                       rotate_left 1
                       focus (simp only [Act.put, List.setIfInBounds_toArray, List.set_cons_succ, List.set_cons_zero]; try rfl)))
                  refine Chain.end_ (fun wz hwz _ => ?_)
                  have HDD := Lib.hid (HD4.out.below hwz)
                  have HNN := Lib.hid (HN4.out.then_below hwz)
                  obtain ⟨x0, x1, x2, x3, x4⟩ := (HX4.out.below hwz).c5
                  rcases Int.lt_or_le C 0 with hC | hC
                  · have HNE := Lib.hid (show ¬ Bok.early (l.map plE) y from fun h => by rw [← HXY.out] at h; have := HEA.out.1 h; omega)
                    have hnb := HDD.out.n
                    go_wp2_with (at_builtin; refine wpList_append_nlit rfl (.tmp 71) (.tmp 73) 25 rfl entry_ty rfl hnb rfl (by simp) rfl (by simp [Value.oneCell']) (by simp only [maxLen]; omega) (by omega) ?_; intro v6 w6 hn6 ha6; have HAP := Lib.hid ha6; clear ha6)
                    have HD6 := Lib.hid ((HDD.out.below (below_al _ (.cells #[.slice x.la x.ls.length x.lc, .int .i64 x.fr, .int .i64 x.n, .int .i64 x.mn, .int .i64 x.mx] 45))).snoc (x := x) (DeepE.below (.inr HNN.out) (below_al _ (.cells #[.slice x.la x.ls.length x.lc, .int .i64 x.fr, .int .i64 x.n, .int .i64 x.mn, .int .i64 x.mx] 45))) hn6 HAP.out (by decide))
                    have HW6 := Lib.hid (hn6.lt (by simp))
                    clear hn6 HAP hnb
                    go_roundw
                    case rel => exact ⟨m, r2, l ++ [x], 0, by go_num, rfl, rfl, HD6, HW6, Lib.hid (fun _ => by rw [List.length_append]; simp only [List.length_singleton]; omega), by omega, Lib.hid (.inl ⟨rfl, H2.out, by rw [HT.out, HTN.out, if_neg (by omega), if_neg HNE.out, List.map_append, ← HXY.out]; rfl⟩)⟩
                    case measure => simp [intOf]
                  · have hR := HENS.out [] [] 3 H2.out (by rw [HT.out, HTN.out, if_neg (by omega), if_pos (by rw [← HXY.out]; exact HEA.out.2 hC)])
                    rw [if_pos (by omega)] at hR
                    have HRES := Lib.hid hR
                    clear hR
                    have hnb := HDD.out.n
                    go_wp2_with (at_builtin; refine wpList_append_nlit rfl (.tmp 71) (.tmp 73) 25 rfl entry_ty rfl hnb rfl (by simp) rfl (by simp [Value.oneCell']) (by simp only [maxLen]; omega) (by omega) ?_; intro v6 w6 hn6 ha6; have HAP := Lib.hid ha6; clear ha6)
                    have HD6 := Lib.hid ((HDD.out.below (below_al _ (.cells #[.slice x.la x.ls.length x.lc, .int .i64 x.fr, .int .i64 x.n, .int .i64 x.mn, .int .i64 x.mx] 45))).snoc (x := x) (DeepE.below (.inr HNN.out) (below_al _ (.cells #[.slice x.la x.ls.length x.lc, .int .i64 x.fr, .int .i64 x.n, .int .i64 x.mn, .int .i64 x.mx] 45))) hn6 HAP.out (by decide))
                    have HW6 := Lib.hid (hn6.lt (by simp))
                    clear hn6 HAP hnb
                    go_roundw
                    case rel => exact ⟨m, r2, l ++ [x], 3, by go_num, rfl, rfl, HD6, HW6, Lib.hid (fun h => by omega), by omega, Lib.hid (.inr ⟨by omega, HRES.out⟩)⟩
                    case measure => simp [intOf]
              · have hez : ((e3 : Int) == 0) = false := by rw [beq_eq_false_iff_ne]; omega
                have hR := HENS.out [] [] e3 H2.out (by rw [HT.out, HTN.out, if_pos he3])
                rw [if_pos he3] at hR
                have HRES := Lib.hid hR
                have HBX := Lib.hid (((((HB3.out.setCell hXw (.slice x.la x.ls.length x.lc) (p := ⟨X, 0, none⟩)).setCell hXw (.int .i64 x.fr) (p := ⟨X, 1, none⟩)).setCell hXw (.int .i64 x.n) (p := ⟨X, 2, none⟩)).setCell hXw (.int .i64 x.mn) (p := ⟨X, 3, none⟩)).setCell hXw (.int .i64 x.mx) (p := ⟨X, 4, none⟩))
                clear hR he3 HT HTN X3
                go_wp2_with fail
                go_ret2
                rw [HRES.out]
                exact RetEs.no HBX.out
          · have hez : ((e2 : Int) == 0) = false := by rw [beq_eq_false_iff_ne]; omega
            have HRES := Lib.hid h2
            clear h1 h2 HS HM hbw HD
            rcases Nat.eq_zero_or_pos m with hm | hm
            · subst hm
              go_wp2_with fail
              go_ret2
              rw [HRES.out]
              exact RetEs.no HBW.out
            · have hm1 : (0 : Int) < (m : Int) := by omega
              go_wp2_with fail
              go_ret2
              rw [HRES.out]
              exact RetEs.no HBW.out
      · have hne : kd.toNat ≠ 5 := fun h => h2 (UInt8.toNat_inj.1 h)
        have hb : (((kd.toNat : Nat) : Int) == 5) = false := by rw [beq_eq_false_iff_ne]; omega
        have hb' : (((kd.toNat : Nat) : Int) != 5) = true := by rw [bne_iff_ne]; omega
        have hres : R = ([], 3) := by
          rw [HR.out]
          exact entriesR_bad (by rw [HO.out]; simp [h2]) (by omega)
        have HRES := Lib.hid hres
        clear hne h2 hres HO HR
        go_enter Tryz.func10, Tryz.ntmps10
        go_wp2_with fail
        refine (HC.out _).mono ?_
        rintro e w1 ⟨rfl, hb1⟩
        have HB1 := Lib.hid (below_trans hb1 (below_al w1 (.cells #[.int .u8 (kd.toNat : Nat), .string (bs d)] 100)))
        clear hb1 HC
        go_wp2_with fail
        go_ret2
        rw [HRES.out]
        exact RetEs.no HB1.out
    · have hb : r.isEmpty = false := by cases r; exact absurd rfl h1; rfl
      have hb2 : (r != []) = true := by rw [bne_iff_ne]; exact h1
      have hres : R = ([], 3) := by
        rw [HR.out]
        exact entriesR_bad (by rw [HO.out]; simp [h1]) (by omega)
      have HRES := Lib.hid hres
      clear h1 hres HO HR
      go_enter Tryz.func10, Tryz.ntmps10
      go_wp2_with fail
      refine (HC.out _).mono ?_
      rintro e w1 ⟨rfl, hb1⟩
      have HB1 := Lib.hid (below_trans hb1 (below_al w1 (.cells #[.int .u8 (kd.toNat : Nat), .string (bs d)] 100)))
      clear hb1 HC
      go_wp2_with fail
      go_ret2
      rw [HRES.out]
      exact RetEs.no HB1.out
  · have hb : ((er : Int) == 0) = false := by rw [beq_eq_false_iff_ne]; omega
    have hres : R = ([], er) := by
      rw [HR.out]
      exact entriesR_bad (by rw [HO.out]; simp [h0]) h0
    have HRES := Lib.hid hres
    clear h0 hres HO HR hdl
    go_enter Tryz.func10, Tryz.ntmps10
    go_wp2_with fail
    refine (HC.out _).mono ?_
    rintro e w1 ⟨rfl, hb1⟩
    have HB1 := Lib.hid (below_trans hb1 (below_al w1 (.cells #[.int .u8 (kd.toNat : Nat), .string (bs d)] 100)))
    clear hb1 HC
    go_wp2_with fail
    go_ret2
    rw [HRES.out]
    exact RetEs.no HB1.out
end Go.Proofs.YtgabmfibfikdbaaGreatDoor
