/-
  Layer 20: the plan of a listing.
-/
import Derived.Test.YtemmgejaoegpfaaZPlnG
import Derived.Deep.CutRange
import Derived.Deep.DeepCutAuto
import Derived.Deep.CutBlock

namespace Go.Proofs.Ytemmgejaoegpfaa
open Go.RowKit Go.Bar Go.Bar.Leb Go.Bar.Frm Go.Bar.Idt Go.Bar.Met Go.Bar.Pln

/-- a plan, or none, made by the call -/
def RetNx (w0 w : World) (o : Option Pl) (e : Ending) (w' : World) : Prop := ∃ v, e = .returned (.tuple #[plV (o.getD pl0) v, .bool o.isSome]) ∧ NMs w0 w w' 55 v (o.getD pl0).ms

theorem SlAt.from_ {w : World} {sz n c : Nat} {a : Option Addr} {xs : List Value} (h : SlAt w sz (.slice a n c) n xs) (l : Nat) (hl : l ≤ n) : SlAt w sz (.slice (dropA a c l sz) (n - l) (c - l)) (n - l) (xs.drop (l * sz)) := by
  have h1 := h.part l n hl (Nat.le_refl _)
  have hlen := h.len
  rwa [List.take_of_length_le (by rw [List.length_drop, hlen, Nat.mul_sub_right_distrib]; omega)] at h1
theorem MsAt.from_ {w0 w : World} {n c : Nat} {a : Option Addr} {l : List Mt} (h : MsAt w0 w (.slice a n c) l) (i : Nat) (hi : i ≤ l.length) : MsAt w0 w (.slice (dropA a c i 8) (n - i) (c - i)) (l.drop i) := by
  obtain ⟨xs, h1, h2, h3⟩ := h
  have hl := map_len h1
  obtain ⟨A', c', he, _⟩ := h2.shape
  injection he with e1 e2 e3
  subst e1; subst e2; subst e3
  refine ⟨xs.drop i, by rw [List.map_drop, h1], ?_, fun x hx => h3 x (List.mem_of_mem_drop hx)⟩
  have := SlAt.from_ h2 i (by omega)
  rw [List.length_drop]
  unfold mcs at this ⊢
  rwa [flat_drop encM 8 encM_eight] at this
theorem meta_info : ∃ i, Try.prog.info? 55 = some i ∧ i.size = 8 := by
  obtain ⟨i, h1, _, h2, _⟩ := meta_ty.info
  exact ⟨i, h1, h2⟩

/-- what a block has beside a range -/
theorem base_rng {m : Mt} (h : Sm m) {wide : Int} : 0 ≤ m.mn.tmod wide ∧ m.mn.tmod wide ≤ m.mn := by
  obtain ⟨h1, h2⟩ := h.mn
  obtain ⟨n, hn⟩ := Int.eq_ofNat_of_zero_le h1
  refine ⟨Int.tmod_nonneg _ h1, ?_⟩
  rw [hn]
  have := Int.natAbs_tmod (n : Int) wide
  have h3 := Nat.mod_le n wide.natAbs
  have h4 := Int.tmod_nonneg wide (show (0 : Int) ≤ n by omega)
  simp only [Int.natAbs_natCast] at this
  omega

theorem base_wrap {m : Mt} (h : Sm m) {wide : Int} : wrap64 (m.mn - m.mn % wide) = base m wide := by
  have h1 := h.mn
  have h2 := base_rng h (wide := wide)
  unfold base
  rw [Int.tmod_eq_emod_of_nonneg h1.1] at *
  unfold wrap64
  omega
theorem base_wrap2 {m : Mt} (h : Sm m) {wide : Int} : IntKind.i64.wrap (m.mn - m.mn.tmod wide) = base m wide := by
  have h1 := h.mn
  have h2 := base_rng h (wide := wide)
  unfold base
  rw [IntKind.wrap_i64]
  omega
theorem base_rng2 {m : Mt} (h : Sm m) {wide : Int} : 0 ≤ base m wide ∧ base m wide ≤ 1000000 := by
  have h1 := h.mn
  have h2 := base_rng h (wide := wide)
  unfold base
  omega

set_option maxHeartbeats 8000000 in
set_option maxRecDepth 10000 in
theorem next_any (at_ width : Int) (mv : Value) (l : List Mt) (b nm : Nat) (mk : Marks) (w0 w : World) (hw : Below w0.heap.size w0 w) (h : MsAt w0 w mv l) (hm : Mp w b nm mk) (hl : Lst l) (h20 : (freeU l mk).length < 20) (hwd : width ≤ 100000) :
    Calls Try.prog 8 #[.agg #[.int .i64 at_, mv, .map (some b)], .int .i64 width] w (RetNx w0 w (next l mk width)) := by
  have hs := fun w' (hb : Below w.heap.size w w') => free_any at_ mv l b nm mk w0 w' (below_trans hw hb) (h.below hb) (hm.below hb) hl h20
  have HSH := Lib.hid hs
  have hlen : (free l mk).length ≤ 1000 := Nat.le_trans (free_length l mk) hl.len
  have hsm : ∀ m ∈ free l mk, Sm m := fun m hm => hl.sm m (free_mem hm).1
  have HW := Lib.hid hw
  obtain ⟨W, hW⟩ : ∃ W, W = max width 1 := ⟨_, rfl⟩
  have hW1 : 1 ≤ W := by omega
  have hW2 : W ≤ 100000 := by omega
  have hnx : next l mk width = (nextIn (free l mk) (W * 3)).or (nextIn (free l mk) (W * 9)) := by rw [hW]; rfl
  rw [hnx]
  obtain ⟨F, hF⟩ : ∃ F, F = free l mk := ⟨_, rfl⟩
  rw [← hF] at HSH hlen hsm ⊢
  have HSM := Lib.hid hsm
  have HWW := Lib.hid hW.symm
  clear hs hl hm h20 hF hnx hsm hw hwd hW
  obtain ⟨A, c, rfl, _, _⟩ := h.shape
  clear h
  obtain ⟨fi, hfi, hfs⟩ := meta_info
  have hsl := fun (a : Option Addr) (n c l : Nat) (h1 : l ≤ n) (h2 : n ≤ c) (w : World) => run_slice_f (P := Try.prog) (a := a) Try.underlying23 hfi hfs l h1 h2 w
  have HSL := Lib.hid hsl
  clear hsl
  go_enter Try.func8, Try.ntmps8
  go_wp2_with fail
  have P1 := Blk.new (w.alloc (.cells #[.int .i64 at_, .slice A l.length c, .map (some b)] 26)) #[.int .i64 0, .int .i64 0, .int .i64 0, .slice none 0 0] 33
  have B1 := below_trans (below_al w (.cells #[.int .i64 at_, .slice A l.length c, .map (some b)] 26)) (below_al _ (.cells #[.int .i64 0, .int .i64 0, .int .i64 0, .slice none 0 0] 33))
  rw [show (w.alloc (.cells #[.int .i64 at_, .slice A l.length c, .map (some b)] 26)).heap.size = w.heap.size + 1 by simp] at P1
  refine (HSH.out _ B1).mono ?_
  rintro e w1 ⟨v1, rfl, hn1⟩
  have P2 := P1.below hn1.below_
  have B2 := below_trans B1 hn1.below_
  have hF := hn1.slice
  obtain ⟨A1, c1, rfl, hc1, hcm1⟩ := hn1.shape
  have hcm2 := hcm1
  unfold maxLen at hcm1
  clear P1 B1 hn1 HSH
  go_wp2_with fail
  go_loopw [20] (fun t wr => ∃ k : Nat, t = .int .i64 k ∧ k ≤ 2 ∧ Hid (1 ≤ k → nextIn F (W * 3) = none) ∧ Hid (2 ≤ k → nextIn F (W * 9) = none) ∧ Blk wr (w.heap.size + 1) 33 #[.int .i64 0, .int .i64 0, .int .i64 0, .slice none 0 0] ∧ Below w1.heap.size w1 wr) (fun t _ => 2 - (intOf t).toNat)
  case atStart => exact ⟨0, rfl, by omega, Lib.hid (fun h => by omega), Lib.hid (fun h => by omega), P2, Below.refl _ _⟩
  case round =>
    obtain ⟨k, rfl, hk, HN1, HN2, P3, B3⟩ := hrel
    clear P2
    by_cases hgo : k < 2
    · obtain ⟨T, hT, hT1⟩ : ∃ T : Int, (T = 3 ∧ k = 0 ∨ T = 9 ∧ k = 1) ∧ 3 ≤ T ∧ T ≤ 9 := by
        rcases (show k = 0 ∨ k = 1 by omega) with h | h
        · exact ⟨3, .inl ⟨rfl, h⟩, by omega, by omega⟩
        · exact ⟨9, .inr ⟨rfl, h⟩, by omega, by omega⟩
      have hwide : (3 : Int) ≤ W * T ∧ W * T ≤ 900000 := by
        rcases hT with ⟨rfl, _⟩ | ⟨rfl, _⟩ <;> omega
      obtain ⟨wide, hwd⟩ : ∃ wide, wide = W * T := ⟨_, rfl⟩
      have HWD := Lib.hid hwd
      have hwr : IntKind.i64.wrap (W * T) = wide := by rw [hwd, IntKind.wrap_i64]; omega
      rw [← hwd] at hwide
      have hwm := HWW.out
      clear hwd
      have hix : ∀ w, (Instr.index 72 (.agg #[.int .i64 3, .int .i64 9]) (.int .i64 k)).run Try.prog w = .ok (.int .i64 T) w := by
        rcases hT with ⟨rfl, rfl⟩ | ⟨rfl, rfl⟩ <;> intro w <;> kernel_rfl
      go_upto_region 7 with fail
      clear hwr hix hwm
      go_loopw [10] (fun j wr => ∃ i : Nat, j = .int .i64 i ∧ i ≤ F.length ∧ Hid (∀ q, q < i → tryP F wide q = none) ∧ Blk wr (w.heap.size + 1) 33 #[.int .i64 0, .int .i64 0, .int .i64 0, .slice none 0 0] ∧ Below w1.heap.size w1 wr) (fun j _ => F.length - (intOf j).toNat)
      case atStart => exact ⟨0, rfl, Nat.zero_le _, Lib.hid (fun q h => by omega), P3, B3⟩
      case round =>
        obtain ⟨i, rfl, hi, HT, P4, B4⟩ := hrel
        clear P3 B3
        by_cases hgi : i < F.length
        · obtain ⟨m, hmk⟩ : ∃ m, F[i]? = some m := ⟨_, List.getElem?_eq_getElem hgi⟩
          have hFn := hF.from_ i hi
          obtain ⟨bb, o, x, hA1, _, hxm, hma, _, e1, _⟩ := (hF.below B4).at_ hmk
          have HA1 := Lib.hid hA1
          have hsm := HSM.out m (List.mem_of_getElem? hmk)
          have hb := base_rng (wide := wide) hsm
          have hmn := hsm.mn
          have HMK := Lib.hid hmk
          have hci : (0 : Int) ≤ (i : Int) := by omega
          have hci2 : (i : Int) < F.length := by omega
          have hw0 : wide ≠ 0 := by omega
          have hbw := base_wrap (show Sm m from HSM.out m (List.mem_of_getElem? hmk)) (wide := wide)
          clear hmk hxm hma hsm hA1
          have hsl := HSL.out A1 F.length c1 i hi hc1
          obtain ⟨n, hn⟩ : ∃ n, n = F.length - i := ⟨_, rfl⟩
          obtain ⟨A5, hA5⟩ : ∃ A5, A5 = dropA A1 c1 i 8 := ⟨_, rfl⟩
          obtain ⟨c5, hc5⟩ : ∃ c5, c5 = c1 - i := ⟨_, rfl⟩
          rw [← hn, ← hA5, ← hc5] at hsl hFn
          have hnl : n ≤ 1000 := by omega
          have HNN := Lib.hid hn
          clear hA5 hc5 hn
          have HSL2 := Lib.hid hsl
          clear hsl
          go_upto_region 9 with fail
          rw [HA1.out]
          go_quiet (fail)
          have hsl := HSL2.out
          rw [HA1.out] at hsl
          go_wp2_with fail
          rw [hbw]
          clear hsl e1 hbw
          obtain ⟨w5, hw5⟩ : ∃ w5, w5 = wr.drewN nq := ⟨_, rfl⟩
          have P5 := P4.drewN nq
          have B5 := below_drewN B4 nq
          rw [← hw5] at P5 B5 ⊢
          clear hw5 P4 B4
          obtain ⟨bm, hbm⟩ : ∃ bm, bm = base m wide := ⟨_, rfl⟩
          have hbm2 := base_rng2 (HSM.out m (List.mem_of_getElem? HMK.out)) (wide := wide)
          rw [← hbm] at hbm2 ⊢
          obtain ⟨p, hp⟩ : ∃ p : Mt → Bool, p = fun x => inG m x wide := ⟨_, rfl⟩
          have hp2 : ∀ x, p x = (decide (base x wide = bm) && decide (x.mx ≤ bm + wide)) := fun x => by rw [hp, hbm]; rfl
          have HP := Lib.hid hp2
          have hgr : group F wide i = (F.drop i).filter p := by
            rw [hp]
            unfold group
            have := HMK.out
            rw [show F.getD i ⟨[], 0, 0, 0, 0, 0, [], []⟩ = m by rw [List.getD_eq_getElem?_getD, this]; rfl]
          have HGR := Lib.hid hgr
          have hsmd : ∀ x ∈ F.drop i, Sm x := fun x hx => HSM.out x (List.mem_of_mem_drop hx)
          have HSMD := Lib.hid hsmd
          obtain ⟨G, hG⟩ : ∃ G, G = F.drop i := ⟨_, rfl⟩
          have hnG : n = G.length := by rw [hG, List.length_drop]; exact HNN.out
          rw [← hG] at HGR HSMD hFn
          clear hbm hp hp2 hgr hsmd hG
          subst hnG
          have hFn5 := hFn.below B5
          obtain ⟨_, _, he, hG5, hG6⟩ := hFn.shape
          injection he with e1 _ e3
          subst e1; subst e3
          unfold maxLen at hG6
          have hGl : G.length ≤ 1000 := by omega
          go_loopw [12, 50] (fun ov j wr => ∃ q : Nat, j = .int .i64 q ∧ q ≤ G.length ∧ NMs w0 w5 wr 55 ov ((G.take q).filter p)) (fun _ j _ => G.length - (intOf j).toNat)
          case atStart => exact ⟨0, rfl, Nat.zero_le _, NMs.nil (Below.refl _ _) _ _⟩
          case round =>
            obtain ⟨q, rfl, hq, hN⟩ := hrel
            obtain ⟨xs, hxs, hnb, hma⟩ := hN
            have HXS := Lib.hid hxs
            have HMA := Lib.hid hma
            have hxl : xs.length ≤ 1000 := by rw [map_len hxs]; exact Nat.le_trans (filter_take_len p G q) hGl
            obtain ⟨A2, c2, rfl, hc2⟩ := hnb.buf.shape
            clear hxs hma
            by_cases hgo2 : q < G.length
            · obtain ⟨y, hyk⟩ : ∃ y, G[q]? = some y := ⟨_, List.getElem?_eq_getElem hgo2⟩
              obtain ⟨b6, o6, x, hA6, _, hxm, hma, d0, d1, d2, d3, d4, d5, d6, d7⟩ := (hFn5.below hnb.below).at_ hyk
              have hys := HSMD.out y (List.mem_of_getElem? hyk)
              have hbx := base_wrap2 hys (wide := wide)
              have hby := base_rng2 hys (wide := wide)
              have hymx := hys.mx
              have HFT := Lib.hid (filter_take (p := p) hyk)
              have HX := Lib.hid hxm
              have HA := Lib.hid hma
              have HA6 := Lib.hid hA6
              have hpy := HP.out y
              obtain ⟨by_, hbyy⟩ : ∃ by_, by_ = base y wide := ⟨_, rfl⟩
              rw [← hbyy] at hpy hbx hby
              have HPY := Lib.hid hpy
              clear hyk hxm hma hA6 hys hpy hbyy
              have hci : (0 : Int) ≤ (q : Int) := by omega
              have hw0 : wide ≠ 0 := by omega
              have hsum : IntKind.i64.wrap (bm + wide) = bm + wide := by rw [IntKind.wrap_i64]; omega
              have hnb1 := hnb.alloc (.cells #[.string (bs y.id), .int .i64 y.mn, .int .i64 y.mx, .int .i64 y.lv, .int .i64 y.sr, .int .i64 y.sm, .slice x.fa y.fs.length x.fc, .slice x.sa y.ss.length x.sc] 55)
              rw [HA6.out]
              go_upto_region 14 with fail
              clear d0 d1 d2 d3 d4 d5 d6 d7 hnb
              have T1 := Blk.new wr #[.string (bs y.id), .int .i64 y.mn, .int .i64 y.mx, .int .i64 y.lv, .int .i64 y.sr, .int .i64 y.sm, .slice x.fa y.fs.length x.fc, .slice x.sa y.ss.length x.sc] 55
              obtain ⟨w6, hw6⟩ : ∃ w6, w6 = wr.alloc (.cells #[.string (bs y.id), .int .i64 y.mn, .int .i64 y.mx, .int .i64 y.lv, .int .i64 y.sr, .int .i64 y.sm, .slice x.fa y.fs.length x.fc, .slice x.sa y.ss.length x.sc] 55) := ⟨_, rfl⟩
              rw [← hw6] at T1 hnb1 ⊢
              clear hw6
              have t1 : w6.cell? ⟨wr.heap.size, 1, none⟩ = some (.int .i64 y.mn) := T1.cell (i := 1) rfl
              have t2 : w6.cell? ⟨wr.heap.size, 2, none⟩ = some (.int .i64 y.mx) := T1.cell (i := 2) rfl
              clear t1 t2
              by_cases hc1' : by_ = bm
              · have hd : (by_ == bm) = true := by rw [beq_iff_eq]; exact hc1'
                by_cases hc2' : y.mx ≤ bm + wide
                · have hd2 : decide (y.mx ≤ bm + wide) = true := decide_eq_true hc2'
                  have hpt : p y = true := by rw [HPY.out, decide_eq_true hc1', hd2]; rfl
                  have HPT := Lib.hid hpt
                  clear hpt hc1' hc2'
                  refine wp_region_known [(1, .int .i64 y.mn), (3, .int .i64 y.mn), (11, .int .i64 y.mx)] (by kernel_rfl) 85 (by kernel_rfl) rfl ?_
                  repeat (first
                    | (refine Chain.step (v := ?_) (a' := ?_) rfl rfl rfl ?_ ?_ ?_
                       rotate_left 2
                       focus (intro w; go_simp; try with_reducible rfl)
                       focus (simp only [Act.put, List.setIfInBounds_toArray, List.set_cons_succ, List.set_cons_zero]; try rfl))
                    | (refine Chain.call (a' := ?_) _ rfl rfl rfl (fun wx hw => ?_) ?_ ?_
                       rotate_left 1
                       focus
                         first
                         | (have g1 : wx.cell? ⟨wr.heap.size, 1, none⟩ = some (.int .i64 y.mn) := (T1.below hw).cell (i := 1) rfl
                            have g2 : wx.cell? ⟨wr.heap.size, 2, none⟩ = some (.int .i64 y.mx) := (T1.below hw).cell (i := 2) rfl
                            go_simp
                            first | exact ⟨rfl, Below.refl _ _⟩ | exact Below.refl _ _)
                       focus (simp only [Act.put, List.setIfInBounds_toArray, List.set_cons_succ, List.set_cons_zero]; try rfl))
                    | (refine Chain.skip (a' := ?_) rfl rfl rfl ?_ ?_
                       rotate_left 1
                       focus (simp only [Act.put, List.setIfInBounds_toArray, List.set_cons_succ, List.set_cons_zero]; try rfl)))
                  refine Chain.end_ (fun wz hwz _ => ?_)
                  have hnb2 := hnb1.then_below hwz
                  have T2 := T1.below hwz
                  clear hwz T1 hnb1
                  have t0 : wz.cell? ⟨wr.heap.size, 0, none⟩ = some (.string (bs y.id)) := T2.cell (i := 0) rfl
                  have t1 : wz.cell? ⟨wr.heap.size, 1, none⟩ = some (.int .i64 y.mn) := T2.cell (i := 1) rfl
                  have t2 : wz.cell? ⟨wr.heap.size, 2, none⟩ = some (.int .i64 y.mx) := T2.cell (i := 2) rfl
                  have t3 : wz.cell? ⟨wr.heap.size, 3, none⟩ = some (.int .i64 y.lv) := T2.cell (i := 3) rfl
                  have t4 : wz.cell? ⟨wr.heap.size, 4, none⟩ = some (.int .i64 y.sr) := T2.cell (i := 4) rfl
                  have t5 : wz.cell? ⟨wr.heap.size, 5, none⟩ = some (.int .i64 y.sm) := T2.cell (i := 5) rfl
                  have t6 : wz.cell? ⟨wr.heap.size, 6, none⟩ = some (.slice x.fa y.fs.length x.fc) := T2.cell (i := 6) rfl
                  have t7 : wz.cell? ⟨wr.heap.size, 7, none⟩ = some (.slice x.sa y.ss.length x.sc) := T2.cell (i := 7) rfl
                  clear T2
                  go_wp2_with (at_builtin; refine wpList_append_nlit rfl (.tmp 71) (.tmp 73) 23 rfl meta_ty rfl hnb2 rfl (by simp) rfl (by simp [Value.oneCell']) (by simp only [maxLen]; omega) (by omega) ?_; intro v3 w9 hnb9 _)
                  refine ⟨⟨_, _, _, ⟨q + 1, by go_num, by omega, ?_⟩, rfl, rfl, rfl⟩, by simp [intOf]; omega⟩
                  rw [HFT.out, HPT.out, if_pos rfl]
                  exact NMs.snoc HXS.out HMA.out HX.out HA.out hnb9
                · have hd2 : decide (y.mx ≤ bm + wide) = false := decide_eq_false hc2'
                  have hpt : p y = false := by rw [HPY.out, decide_eq_true hc1', hd2]; rfl
                  have HPT := Lib.hid hpt
                  clear hpt hc1' hc2'
                  refine wp_region_known [(1, .int .i64 y.mn), (3, .int .i64 y.mn), (11, .int .i64 y.mx)] (by kernel_rfl) 85 (by kernel_rfl) rfl ?_
                  repeat (first
                    | (refine Chain.step (v := ?_) (a' := ?_) rfl rfl rfl ?_ ?_ ?_
                       rotate_left 2
                       focus (intro w; go_simp; try with_reducible rfl)
                       focus (simp only [Act.put, List.setIfInBounds_toArray, List.set_cons_succ, List.set_cons_zero]; try rfl))
                    | (refine Chain.call (a' := ?_) _ rfl rfl rfl (fun wx hw => ?_) ?_ ?_
                       rotate_left 1
                       focus
                         first
                         | (have g1 : wx.cell? ⟨wr.heap.size, 1, none⟩ = some (.int .i64 y.mn) := (T1.below hw).cell (i := 1) rfl
                            have g2 : wx.cell? ⟨wr.heap.size, 2, none⟩ = some (.int .i64 y.mx) := (T1.below hw).cell (i := 2) rfl
                            go_simp
                            first | exact ⟨rfl, Below.refl _ _⟩ | exact Below.refl _ _)
                       focus (simp only [Act.put, List.setIfInBounds_toArray, List.set_cons_succ, List.set_cons_zero]; try rfl))
                    | (refine Chain.skip (a' := ?_) rfl rfl rfl ?_ ?_
                       rotate_left 1
                       focus (simp only [Act.put, List.setIfInBounds_toArray, List.set_cons_succ, List.set_cons_zero]; try rfl)))
                  refine Chain.end_ (fun wz hwz _ => ?_)
                  have hnb2 := hnb1.then_below hwz
                  have T2 := T1.below hwz
                  clear hwz T1 hnb1 T2
                  go_wp2_with fail
                  go_roundw
                  case rel => exact ⟨q + 1, by go_num, by omega, by rw [HFT.out, HPT.out, if_neg (by decide), List.append_nil]; exact ⟨xs, HXS.out, hnb2, HMA.out⟩⟩
                  case measure => simp [intOf]; omega
              · have hd : (by_ == bm) = false := by rw [beq_eq_false_iff_ne]; exact hc1'
                have hpt : p y = false := by rw [HPY.out, decide_eq_false hc1']; rfl
                have HPT := Lib.hid hpt
                clear hpt hc1'
                refine wp_region_known [(1, .int .i64 y.mn), (3, .int .i64 y.mn)] (by kernel_rfl) 85 (by kernel_rfl) rfl ?_
                repeat (first
                  | (refine Chain.step (v := ?_) (a' := ?_) rfl rfl rfl ?_ ?_ ?_
                     rotate_left 2
                     focus (intro w; go_simp; try with_reducible rfl)
                     focus (simp only [Act.put, List.setIfInBounds_toArray, List.set_cons_succ, List.set_cons_zero]; try rfl))
                  | (refine Chain.call (a' := ?_) _ rfl rfl rfl (fun wx hw => ?_) ?_ ?_
                     rotate_left 1
                     focus
                       first
                       | (have g1 : wx.cell? ⟨wr.heap.size, 1, none⟩ = some (.int .i64 y.mn) := (T1.below hw).cell (i := 1) rfl
                          have g2 : wx.cell? ⟨wr.heap.size, 2, none⟩ = some (.int .i64 y.mx) := (T1.below hw).cell (i := 2) rfl
                          go_simp
                          first | exact ⟨rfl, Below.refl _ _⟩ | exact Below.refl _ _)
                     focus (simp only [Act.put, List.setIfInBounds_toArray, List.set_cons_succ, List.set_cons_zero]; try rfl))
                  | (refine Chain.skip (a' := ?_) rfl rfl rfl ?_ ?_
                     rotate_left 1
                     focus (simp only [Act.put, List.setIfInBounds_toArray, List.set_cons_succ, List.set_cons_zero]; try rfl)))
                refine Chain.end_ (fun wz hwz _ => ?_)
                have hnb2 := hnb1.then_below hwz
                have T2 := T1.below hwz
                clear hwz T1 hnb1 T2
                go_wp2_with fail
                go_roundw
                case rel => exact ⟨q + 1, by go_num, by omega, by rw [HFT.out, HPT.out, if_neg (by decide), List.append_nil]; exact ⟨xs, HXS.out, hnb2, HMA.out⟩⟩
                case measure => simp [intOf]; omega
            · obtain rfl : q = G.length := by omega
              have hxs := HXS.out
              rw [List.take_length, ← HGR.out] at hxs
              obtain ⟨Z, hZ⟩ : ∃ Z, Z = group F wide i := ⟨_, rfl⟩
              have hzl : Z.length ≤ 1000 := by
                rw [hZ, HGR.out]
                exact Nat.le_trans (List.length_filter_le _ _) hGl
              have hzs : ∀ m ∈ Z, Sm m := by
                rw [hZ, HGR.out]
                exact fun m hm => HSMD.out m (List.mem_filter.1 hm).1
              rw [← hZ] at hxs
              have hN : NMs w0 w5 wr 55 (.slice A2 xs.length c2) Z := ⟨xs, hxs, hnb, HMA.out⟩
              have B6 := below_trans B2 (below_trans B5 hN.below_)
              have hof := of_any (.slice A2 xs.length c2) Z w0 wr (below_trans HW.out B6) hN.slice hzs hzl
              have HOF := Lib.hid hof
              have HZ := Lib.hid hZ
              have P6 := P5.below hN.below_
              have B7 := below_trans B5 hN.below_
              clear hxs hZ hzs hN hof hzl hnb HXS P5 B5
              go_wp2_with fail
              refine HOF.out.mono ?_
              rintro e w6 ⟨pv, rfl, hnp⟩
              have P7 := P6.below hnp.below_
              have B8 := below_trans B7 hnp.below_
              have B9 := below_trans B6 hnp.below_
              have hNP := hnp.after B6
              obtain ⟨R, hR⟩ : ∃ R, R = of Z := ⟨_, rfl⟩
              rw [← hR] at hNP ⊢
              have HR := Lib.hid hR
              clear hR hnp P6 B6 B7 HOF
              obtain ⟨nA, nc, rfl, hnc, _⟩ := hNP.shape
              unfold plV
              by_cases hok : 1 < R.ms.length
              · have hd : decide (1 < R.ms.length) = true := decide_eq_true hok
                have htr : tryP F wide i = some R := by
                  unfold tryP
                  rw [← HZ.out, ← HR.out, if_pos hok]
                have hnx := nextIn_some HT.out hgi htr
                have hres : (nextIn F (W * 3)).or (nextIn F (W * 9)) = some R := by
                  rcases hT with ⟨e1, e2⟩ | ⟨e1, e2⟩
                  · rw [← e1, ← HWD.out, hnx]; rfl
                  · rw [HN1.out (by omega), ← e1, ← HWD.out, hnx]; rfl
                have HRES := Lib.hid hres
                have P8 := P7.alloc (.cells #[.int .i64 R.fr, .int .i64 R.to_, .int .i64 R.lv, .slice nA R.ms.length nc] 33)
                have N8 := hNP.alloc (.cells #[.int .i64 R.fr, .int .i64 R.to_, .int .i64 R.lv, .slice nA R.ms.length nc] 33)
                have hlt := P7.lt
                have R8 := Blk.new w6 #[.int .i64 R.fr, .int .i64 R.to_, .int .i64 R.lv, .slice nA R.ms.length nc] 33
                clear hres hnx htr hok P7 hNP
                go_upto_region 19 with fail
                obtain ⟨w7, hw7⟩ : ∃ w7, w7 = w6.alloc (.cells #[.int .i64 R.fr, .int .i64 R.to_, .int .i64 R.lv, .slice nA R.ms.length nc] 33) := ⟨_, rfl⟩
                rw [← hw7] at P8 N8 R8 ⊢
                clear hw7
                have x0 : w7.cell? ⟨w6.heap.size, 0, none⟩ = some (.int .i64 R.fr) := R8.cell (i := 0) rfl
                have x1 : w7.cell? ⟨w6.heap.size, 1, none⟩ = some (.int .i64 R.to_) := R8.cell (i := 1) rfl
                have x2 : w7.cell? ⟨w6.heap.size, 2, none⟩ = some (.int .i64 R.lv) := R8.cell (i := 2) rfl
                have x3 : w7.cell? ⟨w6.heap.size, 3, none⟩ = some (.slice nA R.ms.length nc) := R8.cell (i := 3) rfl
                have y0 : w7.cell? ⟨w.heap.size + 1, 0, none⟩ = some (.int .i64 0) := P8.cell (i := 0) rfl
                have y1 : w7.cell? ⟨w.heap.size + 1, 1, none⟩ = some (.int .i64 0) := P8.cell (i := 1) rfl
                have y2 : w7.cell? ⟨w.heap.size + 1, 2, none⟩ = some (.int .i64 0) := P8.cell (i := 2) rfl
                have y3 : w7.cell? ⟨w.heap.size + 1, 3, none⟩ = some (.slice none 0 0) := P8.cell (i := 3) rfl
                have z0 := P8.free 0
                have z1 := P8.free 1
                have z2 := P8.free 2
                have z3 := P8.free 3
                have N9 := ((((N8.set_ne P8 (by decide) (by omega) 0 (.int .i64 R.fr)).set_ne (P8.set _ _) (by decide) (by omega) 1 (.int .i64 R.to_)).set_ne ((P8.set _ _).set _ _) (by decide) (by omega) 2 (.int .i64 R.lv)).set_ne (((P8.set _ _).set _ _).set _ _) (by decide) (by omega) 3 (.slice nA R.ms.length nc))
                have HN9 := Lib.hid N9
                clear N9 P8 N8 R8
                go_wp2_with fail
                refine bodyPost_ret (v := .tuple #[plV R (.slice nA R.ms.length nc), .bool true]) (by simp [results, Try.results8, go_sem, plV, y0, y1, y2, y3]) rfl ?_
                exact ⟨.slice nA R.ms.length nc, by rw [HRES.out]; rfl, by rw [HRES.out]; exact HN9.out⟩
              · have hd : decide (1 < R.ms.length) = false := decide_eq_false hok
                have htr : tryP F wide i = none := by
                  unfold tryP
                  rw [← HZ.out, ← HR.out, if_neg hok]
                have HTR := Lib.hid htr
                have P8 := P7.alloc (.cells #[.int .i64 R.fr, .int .i64 R.to_, .int .i64 R.lv, .slice nA R.ms.length nc] 33)
                have B10 := below_trans B8 (below_al w6 (.cells #[.int .i64 R.fr, .int .i64 R.to_, .int .i64 R.lv, .slice nA R.ms.length nc] 33))
                clear htr hok P7 hNP
                have hk2 : decide ((k : Int) < 2) = true := decide_eq_true (by omega)
                have HK2 := Lib.hid hk2
                clear hk2
                go_wp2_with fail
                refine ⟨?_, by simp [intOf]; omega⟩
                repeat apply Exists.intro
                refine And.intro ?_ ?_
                rotate_left 1
                · rw [HA1.out, HK2.out]
                · exact ⟨i + 1, by go_num, by omega, Lib.hid (fun q hq => by
                    by_cases e : q = i
                    · rw [e]; exact HTR.out
                    · exact HT.out q (by omega)), P8, B10⟩
        · obtain rfl : i = F.length := by omega
          have hnx := nextIn_none (wide := wide) (fun j hj => HT.out j hj)
          rw [HWD.out] at hnx
          have HNX := Lib.hid hnx
          clear hnx
          go_wp2_with fail
          go_roundw
          case rel => exact ⟨k + 1, by go_num, by omega, Lib.hid (fun h => by
              rcases hT with ⟨e1, e2⟩ | ⟨e1, e2⟩
              · have := HNX.out; rwa [e1] at this
              · exact HN1.out (by omega)), Lib.hid (fun h => by
              rcases hT with ⟨e1, e2⟩ | ⟨e1, e2⟩
              · omega
              · have := HNX.out; rwa [e1] at this), P4, B4⟩
          case measure => simp [intOf]; omega
    · obtain rfl : k = 2 := by omega
      have hres : (nextIn F (W * 3)).or (nextIn F (W * 9)) = none := by rw [HN1.out (by omega), HN2.out (by omega)]; rfl
      have HRES := Lib.hid hres
      have y0 : wr.cell? ⟨w.heap.size + 1, 0, none⟩ = some (.int .i64 0) := P3.cell (i := 0) rfl
      have y1 : wr.cell? ⟨w.heap.size + 1, 1, none⟩ = some (.int .i64 0) := P3.cell (i := 1) rfl
      have y2 : wr.cell? ⟨w.heap.size + 1, 2, none⟩ = some (.int .i64 0) := P3.cell (i := 2) rfl
      have y3 : wr.cell? ⟨w.heap.size + 1, 3, none⟩ = some (.slice none 0 0) := P3.cell (i := 3) rfl
      have z0 := P3.free 0
      have z1 := P3.free 1
      have z2 := P3.free 2
      have z3 := P3.free 3
      have hb : Below w.heap.size w wr := below_trans B2 B3
      have HB := Lib.hid ((((hb.setCell (show w.heap.size ≤ w.heap.size + 1 by omega) (.int .i64 0) (p := ⟨w.heap.size + 1, 0, none⟩)).setCell (show w.heap.size ≤ w.heap.size + 1 by omega) (.int .i64 0) (p := ⟨w.heap.size + 1, 1, none⟩)).setCell (show w.heap.size ≤ w.heap.size + 1 by omega) (.int .i64 0) (p := ⟨w.heap.size + 1, 2, none⟩)).setCell (show w.heap.size ≤ w.heap.size + 1 by omega) (.slice none 0 0) (p := ⟨w.heap.size + 1, 3, none⟩))
      clear hb hres P3
      go_wp2_with fail
      refine bodyPost_ret (v := .tuple #[plV pl0 (.slice none 0 0), .bool false]) (by simp [results, Try.results8, go_sem, plV, pl0, y0, y1, y2, y3]) rfl ?_
      exact ⟨.slice none 0 0, by rw [HRES.out]; rfl, by rw [HRES.out]; exact NMs.nil HB.out _ _⟩
end Go.Proofs.Ytemmgejaoegpfaa
