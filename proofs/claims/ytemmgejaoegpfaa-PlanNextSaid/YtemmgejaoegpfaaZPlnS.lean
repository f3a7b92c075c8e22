/-
  Layer 20: the walk of the document's try.
-/
import Derived.Test.YtemmgejaoegpfaaZPlnR
import Derived.Test.YtemmgejaoegpfaaZPlnG
import Derived.BigRegion

namespace Go.Proofs.Ytemmgejaoegpfaa
open Go.RowKit Go.Bar Go.Bar.Leb Go.Bar.Frm Go.Bar.Idt Go.Bar.Met Go.Bar.Pln

/-- a plan, the document's, made by the call -/
def RetT20 (w0 w : World) (p : Pl) (e : Ending) (w' : World) : Prop := ∃ v, e = .returned (.tuple #[plV p v, .bool (decide (1 < p.ms.length))]) ∧ NMs w0 w w' 67 v p.ms
theorem quo_rng {a wide : Int} (h : 0 ≤ a ∧ a ≤ 1000000) (hw : 1 ≤ wide ∧ wide ≤ 1000000) : 0 ≤ a.tdiv wide ∧ a.tdiv wide ≤ 1000000 ∧ 0 ≤ (a.tdiv wide + 1) * wide ∧ (a.tdiv wide + 1) * wide ≤ 2000000 := by
  have h1 : a.tdiv wide = a / wide := Int.tdiv_eq_ediv_of_nonneg h.1
  rw [h1]
  have h2 : 0 ≤ a / wide := Int.ediv_nonneg h.1 (by omega)
  have h3 : a / wide ≤ a := Int.ediv_le_self _ h.1
  have h4 : a / wide * wide ≤ a := Int.ediv_mul_le _ (by omega)
  have h5 : 0 ≤ a / wide * wide := Int.mul_nonneg h2 (by omega)
  rw [Int.add_mul, Int.one_mul]
  omega

set_option maxHeartbeats 16000000 in
set_option maxRecDepth 10000 in
theorem try_any20 (v : Value) (all : List Mt) (i : Nat) (wide : Int) (w0 w : World) (hw0 : Below w0.heap.size w0 w) (h : MsAt w0 w v all) (hsm : ∀ m ∈ all, Sm m) (hl : all.length ≤ 1000) (hi : i < all.length) (hw : 1 ≤ wide ∧ wide ≤ 1000000) :
    Calls Try.prog 23 #[v, .int .i64 i, .int .i64 wide] w (RetT20 w0 w (tryR all wide i)) := by
  obtain ⟨A, c, rfl, hlc, hcm⟩ := h.shape
  unfold maxLen at hcm
  have HSM := Lib.hid hsm
  obtain ⟨m0, hm0⟩ : ∃ m, all[i]? = some m := ⟨_, List.getElem?_eq_getElem hi⟩
  have hmd : all.getD i ⟨[], 0, 0, 0, 0, 0, [], []⟩ = m0 := by rw [List.getD_eq_getElem?_getD, hm0]; rfl
  obtain ⟨R, hR⟩ : ∃ R, R = rgo m0 wide (all.drop i) 0 0 0 pl0 := ⟨_, rfl⟩
  have hof : tryR all wide i = fin R := by unfold tryR; rw [hmd, hR]
  rw [hof]
  have HR := Lib.hid hR
  have HT := Lib.hid h
  have HW0 := Lib.hid hw0
  clear hw0
  have hsm0 := hsm m0 (List.mem_of_getElem? hm0)
  have hq0 := quo_rng hsm0.mn hw
  obtain ⟨D0, hD0⟩ : ∃ D, D = m0.mn.tdiv wide := ⟨_, rfl⟩
  have hd0 := hD0.symm
  have HIG := Lib.hid (fun x => inG_eq m0 x (wide := wide) (by omega))
  rw [← hD0] at hq0 HIG
  have hwn : wide ≠ 0 := by omega
  have hDw : IntKind.i64.wrap D0 = D0 := by rw [IntKind.wrap_i64]; omega
  have hD1 : IntKind.i64.wrap (D0 + 1) = D0 + 1 := by rw [IntKind.wrap_i64]; omega
  obtain ⟨E0, hE0⟩ : ∃ E, E = (D0 + 1) * wide := ⟨_, rfl⟩
  have he0 := hE0.symm
  rw [← hE0] at hq0 HIG
  have hEw : IntKind.i64.wrap E0 = E0 := by rw [IntKind.wrap_i64]; omega
  obtain ⟨bb, o, x, rfl, _, _, _, c0, c1, c2, c3, c4, c5, c6, c7⟩ := h.at_ hm0
  have hii : (i : Int) < (all.length : Int) := by omega
  have hii0 : (0 : Int) ≤ (i : Int) := by omega
  have q1 : ∀ ob1 ob2, ((w.alloc ob1).alloc ob2).cell? ⟨bb, o + i * 8 + 1, none⟩ = some (.int .i64 m0.mn) := fun ob1 ob2 => by
    obtain ⟨_, _, _, he, _, _, _, _, g1, _⟩ := ((h.below (below_al w ob1)).below (below_al _ ob2)).at_ hm0
    injection he with he
    injection he with e1 e2 _
    subst e1; subst e2
    exact g1
  have P0 := (Blk.new w #[.int .i64 0, .int .i64 0, .int .i64 0, .slice none 0 0] 38).alloc (.cells #[.int .i64 0, .int .i64 0, .int .i64 0, .slice none 0 0] 38)
  have Q0 := Blk.new (w.alloc (.cells #[.int .i64 0, .int .i64 0, .int .i64 0, .slice none 0 0] 38)) #[.int .i64 0, .int .i64 0, .int .i64 0, .slice none 0 0] 38
  have B0 := below_trans (below_al w (.cells #[.int .i64 0, .int .i64 0, .int .i64 0, .slice none 0 0] 38)) (below_al _ (.cells #[.int .i64 0, .int .i64 0, .int .i64 0, .slice none 0 0] 38))
  rw [show (w.alloc (.cells #[.int .i64 0, .int .i64 0, .int .i64 0, .slice none 0 0] 38)).heap.size = w.heap.size + 1 by simp] at Q0
  have HP0 := Lib.hid P0
  have HQ0 := Lib.hid Q0
  have HB0 := Lib.hid B0
  clear hsm hmd hof hR hsm0 hm0 hD0 hE0 c0 c1 c2 c3 c4 c5 c6 c7 P0 Q0 B0 h
  go_enter Try.func23, Try.ntmps23
  go_upto_region 7 with fail
  obtain ⟨w1, hw1⟩ : ∃ w1, w1 = (w.alloc (.cells #[.int .i64 0, .int .i64 0, .int .i64 0, .slice none 0 0] 38)).alloc (.cells #[.int .i64 0, .int .i64 0, .int .i64 0, .slice none 0 0] 38) := ⟨_, rfl⟩
  rw [← hw1] at HP0 HQ0 HB0 ⊢
  obtain ⟨X, hX⟩ : ∃ X, X = w.heap.size := ⟨_, rfl⟩
  have HXE := Lib.hid hX
  rw [← hX] at HP0 HQ0 ⊢
  clear hw1 hX q1
  go_wp2_with fail
  go_loopw [10, 11, 12, 13, 14] (fun vb vs va vf kv wr => ∃ (k : Nat) (b s a : Int) (f : Bool) (p : Pl) (pv : Value), kv = .int .i64 k ∧ i ≤ k ∧ k ≤ all.length ∧ vb = .int .i64 b ∧ vs = .int .i64 s ∧ va = .int .i64 a ∧ vf = .bool f ∧ 0 ≤ b ∧ b ≤ 3000000 ∧ 0 ≤ s ∧ s ≤ 3000000 ∧ 0 ≤ a ∧ a ≤ 3000000 ∧ (f = false → b ≤ 262144 ∧ s ≤ 10000 ∧ a ≤ 40000) ∧ PlS p ∧ Hid ((bif f then p else rgo m0 wide (all.drop k) b s a p) = R) ∧
    Hid (Blk wr X 38 #[.int .i64 0, .int .i64 0, .int .i64 0, .slice none 0 0]) ∧ Hid (Blk wr (X + 1) 38 #[.int .i64 p.fr, .int .i64 p.to_, .int .i64 p.lv, pv]) ∧ Hid (NMs w0 w wr 67 pv p.ms) ∧ Hid (∀ u, pv.ownBlock = some u → u < wr.heap.size)) (fun _ _ _ _ kv _ => all.length - (intOf kv).toNat)
  case atStart => exact ⟨i, 0, 0, 0, false, pl0, _, rfl, Nat.le_refl _, by omega, rfl, rfl, rfl, rfl, by decide, by decide, by decide, by decide, by decide, by decide, fun _ => ⟨by decide, by decide, by decide⟩, ⟨by decide, by decide, by decide, by decide⟩, Lib.hid HR.out.symm, HP0, HQ0, Lib.hid (NMs.nil HB0.out _ _), Lib.hid (fun u hu => by simp [Value.ownBlock] at hu)⟩
  case round =>
    obtain ⟨k, b, s, a, f, p, pv, rfl, hik, hk, rfl, rfl, rfl, rfl, hb0, hb1, hs0, hs1, ha0, ha1, hfl, hP, HO, HA, HQ, HN, HOW⟩ := hrel
    clear HP0 HQ0 HB0
    obtain ⟨PA, pc, rfl, hpc, hpm⟩ := HN.out.shape
    unfold maxLen at hpm
    have hbw := HN.out.below_
    rcases Classical.em (k < all.length ∧ f = false) with hgo | hgo
    rotate_left
    · have hpR : R = p := by
        have ho := HO.out
        rcases f with _ | _
        · obtain rfl : k = all.length := by
            rcases Nat.lt_or_ge k all.length with h | h
            · exact absurd ⟨h, rfl⟩ hgo
            · omega
          rw [cond_false, List.drop_length] at ho
          exact ho.symm
        · rw [cond_true] at ho
          exact ho.symm
      subst hpR
      have hor : ((k : Int) < (all.length : Int) ∧ f = true) ∨ (¬ ((k : Int) < (all.length : Int)) ∧ f = true) ∨ (¬ ((k : Int) < (all.length : Int)) ∧ f = false) := by
        rcases f with _ | _
        · exact .inr (.inr ⟨fun h => hgo ⟨by omega, rfl⟩, rfl⟩)
        · rcases Nat.lt_or_ge k all.length with h | h
          · exact .inl ⟨by omega, rfl⟩
          · exact .inr (.inl ⟨by omega, rfl⟩)
      clear HO HR hgo hfl hwn hDw hD1 hEw hd0 he0 hq0 HIG
      have q2 : wr.cell? ⟨X + 1, 2, none⟩ = some (.int .i64 R.lv) := HQ.out.cell (i := 2) rfl
      have f2 := HQ.out.free 2
      have hlvr := hP.lv
      have hmsr := hP.ms
      have hXX : X ≠ X + 1 := by omega
      have hXw : w.heap.size ≤ X + 1 := by have := HXE.out; omega
      have hXv : w.heap.size ≤ X := by have := HXE.out; omega
      rcases hor with ⟨hkk, rfl⟩ | ⟨hkk, rfl⟩ | ⟨hkk, rfl⟩
      all_goals
        go_upto_region 24 with fail
      all_goals
        have Q8 := HQ.out.set 2 (.int .i64 (min (R.lv + 1) 9))
        have A8 := HA.out.other hXX 2 (.int .i64 (min (R.lv + 1) 9))
        have N8 := HN.out.set_ne HQ.out (by decide) hXw 2 (.int .i64 (min (R.lv + 1) 9))
        go_upto_region 25 with fail
        obtain ⟨w8, hw8⟩ : ∃ w8, w8 = wr.setCell ⟨X + 1, 2, none⟩ (.int .i64 (min (R.lv + 1) 9)) := ⟨_, rfl⟩
        rw [← hw8] at Q8 A8 N8 ⊢
        clear hw8 q2 f2
        have HQ8 := Lib.hid Q8
        have HA8 := Lib.hid A8
        have HN8 := Lib.hid N8
        clear Q8 A8 N8 HA HQ HN HOW hbw HT HSM hkk
        have hdec : decide ((1 : Int) < (R.ms.length : Int)) = decide (1 < R.ms.length) := by rw [decide_eq_decide]; omega
        refine Dn.wp_region_states [(0, .agg #[.int .i64 R.fr, .int .i64 R.to_, .int .i64 (min (R.lv + 1) 9), .slice PA R.ms.length pc]), (2, .slice PA R.ms.length pc), (5, undef)]
          (fun D w' => Fr (fun k _ => k = X) w8 w' ∧ Sw 5 (fun w' => Blk w' X 38 #[.int .i64 0, .int .i64 0, .int .i64 0, .slice none 0 0]) (fun w' => Blk w' X 38 #[.int .i64 R.fr, .int .i64 R.to_, .int .i64 (min (R.lv + 1) 9), .slice PA R.ms.length pc]) D w') (by kernel_rfl) 135 (by kernel_rfl) rfl
          (fun i D w' hi hx => ⟨hx.1, hx.2.same (lookup_ne' rfl hi)⟩)
          ⟨Fr.of_below (Below.refl _ _).drew, Sw.start HA8.out.drew⟩ ?_
        repeat (first
          | (refine Dn.Chain.step (v := ?_) (a' := ?_) rfl rfl rfl ?_ ?_ ?_
             rotate_left 2
             focus (intro w; go_simp; try with_reducible rfl)
             focus (simp only [Act.put, List.setIfInBounds_toArray, List.set_cons_succ, List.set_cons_zero]; try rfl))
          | (refine Dn.Chain.call (a' := ?_) _ rfl rfl rfl (fun D wx hx hD hp => ?_) ?_ ?_
             rotate_left 1
             focus
               first
               | (obtain ⟨hf, hs⟩ := hx
                  have QX := HQ8.out.fr hf (fun i (e : X + 1 = X) => by omega)
                  have x0 : wx.cell? ⟨X + 1, 0, none⟩ = some (.int .i64 R.fr) := QX.cell (i := 0) rfl
                  have x1 : wx.cell? ⟨X + 1, 1, none⟩ = some (.int .i64 R.to_) := QX.cell (i := 1) rfl
                  have x2 : wx.cell? ⟨X + 1, 2, none⟩ = some (.int .i64 (min (R.lv + 1) 9)) := QX.cell (i := 2) rfl
                  have x3 : wx.cell? ⟨X + 1, 3, none⟩ = some (.slice PA R.ms.length pc) := QX.cell (i := 3) rfl
                  clear QX
                  go_simp
                  (repeat' (with_reducible apply And.intro)) <;> first | exact rfl | exact hf | exact hs.same (by decide))
               | (obtain ⟨hf, hs⟩ := hx
                  have AX := hs.1 hD
                  have y0 : wx.cell? ⟨X, 0, none⟩ = some (.int .i64 0) := AX.cell (i := 0) rfl
                  have y1 : wx.cell? ⟨X, 1, none⟩ = some (.int .i64 0) := AX.cell (i := 1) rfl
                  have y2 : wx.cell? ⟨X, 2, none⟩ = some (.int .i64 0) := AX.cell (i := 2) rfl
                  have y3 : wx.cell? ⟨X, 3, none⟩ = some (.slice none 0 0) := AX.cell (i := 3) rfl
                  have z0 := AX.free 0
                  have z1 := AX.free 1
                  have z2 := AX.free 2
                  have z3 := AX.free 3
                  have HAX := Lib.hid AX
                  clear AX
                  go_simp
                  (repeat' (with_reducible apply And.intro)) <;> first | exact rfl | exact (((hf.setCell (fun _ => rfl) _).setCell (fun _ => rfl) _).setCell (fun _ => rfl) _).setCell (fun _ => rfl) _ | exact Sw.done ((((HAX.out.set 0 _).set 1 _).set 2 _).set 3 _))
             focus (simp only [Act.put, List.setIfInBounds_toArray, List.set_cons_succ, List.set_cons_zero]; try rfl))
          | (refine Dn.Chain.skip (a' := ?_) rfl rfl rfl ?_ ?_
             rotate_left 1
             focus (simp only [Act.put, List.setIfInBounds_toArray, List.set_cons_succ, List.set_cons_zero]; try rfl)))
        refine Dn.Chain.end_ (fun D w9 hDD hx => ?_)
        obtain ⟨hf9, hs9⟩ := hx
        have A9 := hs9.2 (hDD 5 (by decide))
        have N9 := HN8.out.fr_ne HA8.out (by decide) hXv hf9
        have HN9 := Lib.hid N9
        have y0 : w9.cell? ⟨X, 0, none⟩ = some (.int .i64 R.fr) := A9.cell (i := 0) rfl
        have y1 : w9.cell? ⟨X, 1, none⟩ = some (.int .i64 R.to_) := A9.cell (i := 1) rfl
        have y2 : w9.cell? ⟨X, 2, none⟩ = some (.int .i64 (min (R.lv + 1) 9)) := A9.cell (i := 2) rfl
        have y3 : w9.cell? ⟨X, 3, none⟩ = some (.slice PA R.ms.length pc) := A9.cell (i := 3) rfl
        clear N9 A9 hs9 hf9 hDD
        go_wp2_with fail
        refine bodyPost_ret (v := .tuple #[plV (fin R) (.slice PA R.ms.length pc), .bool (decide (1 < R.ms.length))]) (by simp [results, Try.results23, go_sem, plV, fin, y0, y1, y2, y3]) rfl ?_
        exact ⟨_, rfl, HN9.out⟩
    · obtain ⟨hgo, rfl⟩ := hgo
      obtain ⟨hfb, hfs, hfa⟩ := hfl rfl
      obtain ⟨m, hmk⟩ : ∃ m, all[k]? = some m := ⟨_, List.getElem?_eq_getElem hgo⟩
      obtain ⟨b2, o2, x, he, _, hxm, hma, c0, c1, c2, c3, c4, c5, c6, c7⟩ := (HT.out.below hbw).at_ hmk
      injection he with he
      injection he with e1 e2 _
      subst e1; subst e2
      have ho := HO.out
      rw [cond_false, rgo_at hmk] at ho
      have hs := HSM.out m (List.mem_of_getElem? hmk)
      have hsz := size_rng hs
      have HS := Lib.hid hs
      have hms : FlsAt w (.slice x.fa m.fs.length x.fc) m.fs := by rw [← hxm]; exact hma.1.below HW0.out
      have hig := HIG.out m
      have hqm := quo_rng hs.mn hw
      obtain ⟨D1, hD1e⟩ : ∃ D, D = m.mn.tdiv wide := ⟨_, rfl⟩
      have hd1 := hD1e.symm
      rw [← hD1e] at hig hqm
      have hDw1 : IntKind.i64.wrap D1 = D1 := by rw [IntKind.wrap_i64]; omega
      obtain ⟨g, hg⟩ : ∃ g, g = inG m0 m wide := ⟨_, rfl⟩
      rw [← hg] at ho hig
      have HO2 := Lib.hid ho
      have HIGM := Lib.hid hig
      have HX := Lib.hid hxm
      have HMA := Lib.hid hma
      have HFS := Lib.hid hms
      have hsr := hs.sr
      have hsm2 := hs.sm
      have hmxr := hs.mx
      have hki : (k : Int) < (all.length : Int) := by omega
      have hki0 : (0 : Int) ≤ (k : Int) := by omega
      obtain ⟨wm, hwm⟩ : ∃ wm, wm = wr.alloc (.cells #[.string (bs m.id), .int .i64 m.mn, .int .i64 m.mx, .int .i64 m.lv, .int .i64 m.sr, .int .i64 m.sm, .slice x.fa m.fs.length x.fc, .slice x.sa m.ss.length x.sc] 67) := ⟨_, rfl⟩
      have hbm : Below wr.heap.size wr wm := by rw [hwm]; exact below_al _ _
      have HM : Hid (Blk wm wr.heap.size 67 #[.string (bs m.id), .int .i64 m.mn, .int .i64 m.mx, .int .i64 m.lv, .int .i64 m.sr, .int .i64 m.sm, .slice x.fa m.fs.length x.fc, .slice x.sa m.ss.length x.sc]) := Lib.hid (by rw [hwm]; exact Blk.new _ _ _)
      have HA4 := Lib.hid (HA.out.below hbm)
      have HQ4 := Lib.hid (HQ.out.below hbm)
      have HN4 := Lib.hid (HN.out.then_below hbm)
      have hltX := HQ.out.lt
      clear hmk ho hs hms hig hg hD1e hxm hma HO hfl
      go_upto_region 11 with fail
      rw [← hwm]
      obtain ⟨V, hV⟩ : ∃ V, V = wr.heap.size := ⟨_, rfl⟩
      rw [← hV] at HM hltX ⊢
      have HOV : Hid ((Value.slice PA p.ms.length pc).ownBlock ≠ some V) := Lib.hid (fun e => by have := HOW.out V e; omega)
      have HOW4 : Hid (∀ u, (Value.slice PA p.ms.length pc).ownBlock = some u → u < wm.heap.size) := Lib.hid (fun u hu => Nat.lt_of_lt_of_le (HOW.out u hu) hbm.size)
      have hbwm := below_trans hbw hbm
      clear hwm hV hbm c0 c1 c2 c3 c4 c5 c6 c7 HA HQ HN hbw
      obtain ⟨m0', m1, m2, m3, m4, m5, m6, m7⟩ := HM.out.c8
      go_cut [10, 11, 12, 13, 14, 53] from 25 to 124 (fun vb vs va vf kv g' wx => vb = .int .i64 b ∧ vs = .int .i64 s ∧ va = .int .i64 a ∧ vf = .bool false ∧ kv = .int .i64 k ∧ g' = .bool (!g) ∧ wm = wx)
      case first =>
        by_cases h1 : D1 = D0
        · have h1b : (D1 != D0) = false := by rw [bne_eq_false_iff_eq]; exact h1
          by_cases h2 : m.mx ≤ E0
          · have hg1 : g = true := by rw [HIGM.out, decide_eq_true h1, decide_eq_true h2]; rfl
            have h3 : ¬ E0 < m.mx := by omega
            subst hg1
            clear h1 h2
            go_wp2_with fail
            go_meet
            case rel => exact ⟨rfl, rfl, rfl, rfl, rfl, rfl, rfl⟩
          · have hg1 : g = false := by rw [HIGM.out, decide_eq_false h2, Bool.and_false]
            have h3 : E0 < m.mx := by omega
            subst hg1
            clear h1 h2
            go_wp2_with fail
            go_meet
            case rel => exact ⟨rfl, rfl, rfl, rfl, rfl, rfl, rfl⟩
        · have h1b : (D1 != D0) = true := by rw [bne_iff_ne]; exact h1
          have hg1 : g = false := by rw [HIGM.out, decide_eq_false h1, Bool.false_and]
          subst hg1
          clear h1
          go_wp2_with fail
          go_meet
          case rel => exact ⟨rfl, rfl, rfl, rfl, rfl, rfl, rfl⟩
      case rest =>
        obtain ⟨rfl, rfl, rfl, rfl, rfl, rfl, rfl⟩ := hcut
        clear HIGM
        rcases g with _ | _
        · have ho := HO2.out
          rw [if_neg Bool.false_ne_true] at ho
          have HO3 := Lib.hid ho
          clear ho HO2
          go_wp2_with fail
          go_roundw
          case rel => exact ⟨k + 1, b, s, a, false, p, _, by go_num, by omega, by omega, rfl, rfl, rfl, rfl, hb0, hb1, hs0, hs1, ha0, ha1, fun _ => ⟨hfb, hfs, hfa⟩, hP, HO3, HA4, HQ4, HN4, HOW4⟩
          case measure => simp [intOf]; omega
        · have ho := HO2.out
          rw [if_pos rfl] at ho
          have HO3 := Lib.hid ho
          obtain ⟨fl, gl, hfs2, hf1, hf2, hg1, hg2⟩ := HS.out.fs
          have hszE : size m = fl.size + gl.size := by unfold size; rw [hfs2]; rfl
          have hms := HFS.out
          obtain ⟨fb, fo, hfa2, _⟩ := hms.at_ (i := 0) (f := fl) (by rw [hfs2]; rfl)
          have hfl2 : m.fs.length = 2 := by rw [hfs2]; rfl
          have HF0 : Hid (∀ w', Below w.heap.size w w' → w'.cell? ⟨fb, fo + 1, none⟩ = some (.int .i64 fl.size)) := Lib.hid (fun w' hb => by
            obtain ⟨b1, o1, he, _, _, e1, _⟩ := (hms.below hb).at_ (i := 0) (f := fl) (by rw [hfs2]; rfl)
            rw [hfa2] at he
            injection he with he
            injection he with h1 h2 _
            rw [← h1, ← h2] at e1
            rw [Nat.zero_mul, Nat.add_zero] at e1
            exact e1)
          have HF1 : Hid (∀ w', Below w.heap.size w w' → w'.cell? ⟨fb, fo + 3 + 1, none⟩ = some (.int .i64 gl.size)) := Lib.hid (fun w' hb => by
            obtain ⟨b1, o1, he, _, _, e1, _⟩ := (hms.below hb).at_ (i := 1) (f := gl) (by rw [hfs2]; rfl)
            rw [hfa2] at he
            injection he with he
            injection he with h1 h2 _
            rw [← h1, ← h2] at e1
            rw [Nat.one_mul] at e1
            exact e1)
          have HM2 : Hid (Blk wm V 67 #[.string (bs m.id), .int .i64 m.mn, .int .i64 m.mx, .int .i64 m.lv, .int .i64 m.sr, .int .i64 m.sm, .slice (some ⟨fb, fo, none⟩) 2 x.fc, .slice x.sa m.ss.length x.sc]) := Lib.hid (by have h := HM.out; rw [hfa2, hfl2] at h; exact h)
          obtain ⟨SZ, hSZ⟩ : ∃ SZ, SZ = size m := ⟨_, rfl⟩
          rw [← hSZ] at hszE hsz HO3
          obtain ⟨fz, hfz⟩ : ∃ fz, fz = fl.size := ⟨_, rfl⟩
          obtain ⟨gz, hgz⟩ : ∃ gz, gz = gl.size := ⟨_, rfl⟩
          rw [← hfz] at HF0 hszE hf1 hf2
          rw [← hgz] at HF1 hszE hg1 hg2
          have hsw : IntKind.i64.wrap SZ = SZ := by rw [IntKind.wrap_i64]; omega
          have hse : fz + gz = SZ := by omega
          clear ho HO2 hfs2 hms hfa2 hfl2 hSZ hfz hgz hszE HFS
          have hbz : IntKind.i64.wrap (b + SZ) = b + SZ := by rw [IntKind.wrap_i64]; omega
          clear hwn hDw hD1 hEw hd0 he0 hDw1 hd1 hq0 hqm m0' m1 m2 m3 m4 m5 m6 m7
          go_upto_region 12 with fail
          refine wp_region_facts [(2, (isV (.slice (some ⟨fb, fo, none⟩) 2 x.fc), noFact)), (5, (isV (.int .i64 fz), noFact)), (7, (isV (.slice (some ⟨fb, fo, none⟩) 2 x.fc), noFact)), (10, (isV (.int .i64 gz), noFact))] (by kernel_rfl) 135 (by kernel_rfl) rfl ?_ ?_ ?_
          · apply lookup_ne
            simp only [List.forall_mem_cons, List.not_mem_nil, false_imp_iff, implies_true, and_true]
            exact ⟨⟨_, rfl⟩, ⟨_, rfl⟩, ⟨_, rfl⟩, ⟨_, rfl⟩⟩
          · apply lookup_st
            simp only [List.forall_mem_cons, List.not_mem_nil, false_imp_iff, implies_true, and_true]
            refine ⟨?_, ?_, ?_, ?_⟩
            · exact fun _ _ _ _ _ => trivial
            · exact fun _ _ _ _ _ => trivial
            · exact fun _ _ _ _ _ => trivial
            · exact fun _ _ _ _ _ => trivial
          repeat (first
            | (refine Chain.step (v := ?_) (a' := ?_) rfl rfl rfl ?_ ?_ ?_
               rotate_left 2
               focus (intro w; go_simp; try with_reducible rfl)
               focus (simp only [Act.put, List.setIfInBounds_toArray, List.set_cons_succ, List.set_cons_zero]; try rfl))
            | (refine Chain.skip (a' := ?_) rfl rfl rfl ?_ ?_
               rotate_left 1
               focus (simp only [Act.put, List.setIfInBounds_toArray, List.set_cons_succ, List.set_cons_zero]; try rfl)))
          refine Chain.call' (a' := ?_) _ rfl rfl rfl rfl (fun wx hw hF => ?_) ?_ ?_
          rotate_left 1
          focus
            obtain ⟨g0, g1, g2, g3, g4, g5, g6, g7⟩ := Blk.c8 (HM2.out.below hw); go_simp; first | exact ⟨rfl, Below.refl _ _⟩ | exact Below.refl _ _
          focus (simp only [Act.put, List.setIfInBounds_toArray, List.set_cons_succ, List.set_cons_zero]; try rfl)
          repeat (first
            | (refine Chain.step (v := ?_) (a' := ?_) rfl rfl rfl ?_ ?_ ?_
               rotate_left 2
               focus (intro w; go_simp; try with_reducible rfl)
               focus (simp only [Act.put, List.setIfInBounds_toArray, List.set_cons_succ, List.set_cons_zero]; try rfl))
            | (refine Chain.skip (a' := ?_) rfl rfl rfl ?_ ?_
               rotate_left 1
               focus (simp only [Act.put, List.setIfInBounds_toArray, List.set_cons_succ, List.set_cons_zero]; try rfl)))
          refine Chain.call' (a' := ?_) _ rfl rfl rfl rfl (fun wx hw hF => ?_) ?_ ?_
          rotate_left 1
          focus
            have g0 := HF0.out wx (below_trans hbwm hw)
            go_simp; first | exact ⟨rfl, Below.refl _ _⟩ | exact Below.refl _ _
          focus (simp only [Act.put, List.setIfInBounds_toArray, List.set_cons_succ, List.set_cons_zero]; try rfl)
          repeat (first
            | (refine Chain.step (v := ?_) (a' := ?_) rfl rfl rfl ?_ ?_ ?_
               rotate_left 2
               focus (intro w; go_simp; try with_reducible rfl)
               focus (simp only [Act.put, List.setIfInBounds_toArray, List.set_cons_succ, List.set_cons_zero]; try rfl))
            | (refine Chain.skip (a' := ?_) rfl rfl rfl ?_ ?_
               rotate_left 1
               focus (simp only [Act.put, List.setIfInBounds_toArray, List.set_cons_succ, List.set_cons_zero]; try rfl)))
          refine Chain.call' (a' := ?_) _ rfl rfl rfl rfl (fun wx hw hF => ?_) ?_ ?_
          rotate_left 1
          focus
            obtain ⟨g0, g1, g2, g3, g4, g5, g6, g7⟩ := Blk.c8 (HM2.out.below hw); go_simp; first | exact ⟨rfl, Below.refl _ _⟩ | exact Below.refl _ _
          focus (simp only [Act.put, List.setIfInBounds_toArray, List.set_cons_succ, List.set_cons_zero]; try rfl)
          repeat (first
            | (refine Chain.step (v := ?_) (a' := ?_) rfl rfl rfl ?_ ?_ ?_
               rotate_left 2
               focus (intro w; go_simp; try with_reducible rfl)
               focus (simp only [Act.put, List.setIfInBounds_toArray, List.set_cons_succ, List.set_cons_zero]; try rfl))
            | (refine Chain.skip (a' := ?_) rfl rfl rfl ?_ ?_
               rotate_left 1
               focus (simp only [Act.put, List.setIfInBounds_toArray, List.set_cons_succ, List.set_cons_zero]; try rfl)))
          refine Chain.call' (a' := ?_) _ rfl rfl rfl rfl (fun wx hw hF => ?_) ?_ ?_
          rotate_left 1
          focus
            have g0 := HF1.out wx (below_trans hbwm hw)
            go_simp; first | exact ⟨rfl, Below.refl _ _⟩ | exact Below.refl _ _
          focus (simp only [Act.put, List.setIfInBounds_toArray, List.set_cons_succ, List.set_cons_zero]; try rfl)
          repeat (first
            | (refine Chain.step (v := ?_) (a' := ?_) rfl rfl rfl ?_ ?_ ?_
               rotate_left 2
               focus (intro w; go_simp; try with_reducible rfl)
               focus (simp only [Act.put, List.setIfInBounds_toArray, List.set_cons_succ, List.set_cons_zero]; try rfl))
            | (refine Chain.skip (a' := ?_) rfl rfl rfl ?_ ?_
               rotate_left 1
               focus (simp only [Act.put, List.setIfInBounds_toArray, List.set_cons_succ, List.set_cons_zero]; try rfl)))
          refine Chain.end_ (fun wz hwz _ => ?_)
          have hbz3 := below_trans hbwm hwz
          have HM3 := Lib.hid (HM.out.below hwz)
          have HA3 := Lib.hid (HA4.out.below hwz)
          have HQ3 := Lib.hid (HQ4.out.below hwz)
          have HN3 := Lib.hid (HN4.out.then_below hwz)
          have HOW3 : Hid (∀ u, (Value.slice PA p.ms.length pc).ownBlock = some u → u < wz.heap.size) := Lib.hid (fun u hu => Nat.lt_of_lt_of_le (HOW4.out u hu) hwz.size)
          clear HM HA4 HQ4 HN4 HOW4 HM2 HF0 HF1 hsw hse hwz hbwm
          obtain ⟨m0', m1, m2, m3, m4, m5, m6, m7⟩ := HM3.out.c8
          have q3 : wz.cell? ⟨X + 1, 3, none⟩ = some (.slice PA p.ms.length pc) := HQ3.out.cell (i := 3) rfl
          go_upto_region 15 with fail
          obtain ⟨b1, hb1e⟩ : ∃ b1, b1 = b + SZ := ⟨_, rfl⟩
          obtain ⟨s1, hs1e⟩ : ∃ s1, s1 = s + m.sr := ⟨_, rfl⟩
          obtain ⟨a1, ha1e⟩ : ∃ a1, a1 = a + m.sm := ⟨_, rfl⟩
          have hb2 : 0 ≤ b1 ∧ b1 ≤ 3000000 := by omega
          have hs2 : 0 ≤ s1 ∧ s1 ≤ 3000000 := by omega
          have ha2 : 0 ≤ a1 ∧ a1 ≤ 3000000 := by omega
          rw [← hb1e, ← hs1e, ← ha1e] at HO3
          rw [← hb1e, ← hs1e, ← ha1e]
          clear hb1e hs1e ha1e hb0 hb1 hs0 hs1 ha0 ha1 hfb hfs hfa hbz hsz hf1 hf2 hg1 hg2
          obtain ⟨G, hG⟩ : ∃ G, G = decide (over b1 s1 a1 p.ms.length) := ⟨_, rfl⟩
          have HG := Lib.hid hG
          clear hG
          go_cut [10, 11, 12, 13, 14, 90] from 25 to 124 (fun vb vs va vf kv g' wx => vb = .int .i64 b1 ∧ vs = .int .i64 s1 ∧ va = .int .i64 a1 ∧ vf = .bool false ∧ kv = .int .i64 k ∧ g' = .bool G ∧ wz = wx)
          case first =>
            by_cases h1 : 262144 < b1
            · have hv : G = true := by rw [HG.out]; exact decide_eq_true (.inl h1)
              subst hv
              go_wp2_with fail
              go_meet
              case rel => exact ⟨rfl, rfl, rfl, rfl, rfl, rfl, rfl⟩
            · by_cases h2 : 10000 < s1
              · have hv : G = true := by rw [HG.out]; exact decide_eq_true (.inr (.inl h2))
                subst hv
                go_wp2_with fail
                go_meet
                case rel => exact ⟨rfl, rfl, rfl, rfl, rfl, rfl, rfl⟩
              · by_cases h3 : 40000 < a1
                · have hv : G = true := by rw [HG.out]; exact decide_eq_true (.inr (.inr (.inl h3)))
                  subst hv
                  go_wp2_with fail
                  go_meet
                  case rel => exact ⟨rfl, rfl, rfl, rfl, rfl, rfl, rfl⟩
                · by_cases h4 : p.ms.length = 20
                  · have hv : G = true := by rw [HG.out]; exact decide_eq_true (.inr (.inr (.inr h4)))
                    subst hv
                    have h4' : ((p.ms.length : Int) == 20) = true := by rw [beq_iff_eq]; omega
                    go_wp2_with fail
                    go_meet
                    case rel => exact ⟨rfl, rfl, rfl, rfl, rfl, rfl, rfl⟩
                  · have hv : G = false := by
                      rw [HG.out]
                      exact decide_eq_false (fun e => by rcases e with e | e | e | e <;> omega)
                    subst hv
                    have h4' : ((p.ms.length : Int) == 20) = false := by rw [beq_eq_false_iff_ne]; omega
                    go_wp2_with fail
                    go_meet
                    case rel => exact ⟨rfl, rfl, rfl, rfl, rfl, rfl, rfl⟩
          case rest =>
            obtain ⟨rfl, rfl, rfl, rfl, rfl, rfl, rfl⟩ := hcut
            by_cases hov : over b1 s1 a1 p.ms.length
            · have hv : G = true := by rw [HG.out]; exact decide_eq_true hov
              have ho := HO3.out
              rw [if_pos hov] at ho
              have HO4 : Hid ((bif true then p else rgo m0 wide (all.drop (k + 1)) b1 s1 a1 p) = R) := Lib.hid ho
              subst hv
              clear hov ho HO3 HG m0' m1 m2 m3 m4 m5 m6 m7 q3
              go_wp2_with fail
              go_roundw
              case rel => exact ⟨k + 1, b1, s1, a1, true, p, _, by go_num, by omega, by omega, rfl, rfl, rfl, rfl, hb2.1, hb2.2, hs2.1, hs2.2, ha2.1, ha2.2, fun h => (by cases h), hP, HO4, HA3, HQ3, HN3, HOW3⟩
              case measure => simp [intOf]; omega
            · have hv : G = false := by rw [HG.out]; exact decide_eq_false hov
              subst hv
              have ho := HO3.out
              rw [if_neg hov] at ho
              have HO4 : Hid ((bif false then add p m else rgo m0 wide (all.drop (k + 1)) b1 s1 a1 (add p m)) = R) := Lib.hid ho
              unfold over at hov
              have h1 : b1 ≤ 262144 := by
                rcases Int.lt_or_le 262144 b1 with h | h
                · exact absurd (.inl h) hov
                · exact h
              have h2 : s1 ≤ 10000 := by
                rcases Int.lt_or_le 10000 s1 with h | h
                · exact absurd (.inr (.inl h)) hov
                · exact h
              have h3 : a1 ≤ 40000 := by
                rcases Int.lt_or_le 40000 a1 with h | h
                · exact absurd (.inr (.inr (.inl h))) hov
                · exact h
              have h4 : p.ms.length ≠ 20 := fun h => hov (.inr (.inr (.inr h)))
              have HPN := Lib.hid (hP.add HS.out h4)
              have hP4 := hP.ms
              obtain ⟨F, hF⟩ : ∃ F, F = if p.ms.length = 0 then m.mn else p.fr := ⟨_, rfl⟩
              obtain ⟨U, hU⟩ : ∃ U, U = if p.ms.length = 0 then m.mx else p.to_ := ⟨_, rfl⟩
              have hadd : add p m = ⟨min F m.mn, max U m.mx, max p.lv m.lv, p.ms ++ [m]⟩ := by rw [hF, hU]; rfl
              have HADD := Lib.hid hadd
              have HF := Lib.hid hF
              have HU := Lib.hid hU
              clear hF hU hadd ho hov HO3 HG
              have hVX : V ≠ X + 1 := by omega
              have hXX : X ≠ X + 1 := by omega
              have hXw : w.heap.size ≤ X + 1 := by have := HXE.out; omega
              have hsz : ∀ (w' : World) (j : Nat) (u : Value), (w'.setCell ⟨X + 1, j, none⟩ u).heap.size = w'.heap.size := fun w' j u => by simp
              have HSZ := Lib.hid hsz
              clear hsz
              go_upto_if 94 with fail
              go_cut [10, 11, 12, 13, 14, 94] from 25 to 124 (fun vb vs va vf kv _ wx => vb = .int .i64 b1 ∧ vs = .int .i64 s1 ∧ va = .int .i64 a1 ∧ vf = .bool false ∧ kv = .int .i64 k ∧ Hid (Blk wx V 67 #[.string (bs m.id), .int .i64 m.mn, .int .i64 m.mx, .int .i64 m.lv, .int .i64 m.sr, .int .i64 m.sm, .slice x.fa m.fs.length x.fc, .slice x.sa m.ss.length x.sc]) ∧ Hid (Blk wx X 38 #[.int .i64 0, .int .i64 0, .int .i64 0, .slice none 0 0]) ∧ Hid (Blk wx (X + 1) 38 #[.int .i64 F, .int .i64 U, .int .i64 p.lv, .slice PA p.ms.length pc]) ∧ Hid (NMs w0 w wx 67 (.slice PA p.ms.length pc) p.ms) ∧ Hid (∀ u, (Value.slice PA p.ms.length pc).ownBlock = some u → u < wx.heap.size))
              case first =>
                by_cases hz : p.ms.length = 0
                · have hz' : ((p.ms.length : Int) == 0) = true := by rw [beq_iff_eq]; omega
                  have hF := HF.out
                  have hU := HU.out
                  rw [if_pos hz] at hF hU
                  subst hF; subst hU
                  have q0 : wz.cell? ⟨X + 1, 0, none⟩ = some (.int .i64 p.fr) := HQ3.out.cell (i := 0) rfl
                  have f0 := HQ3.out.free 0
                  clear q3
                  go_upto_region 19 with fail
                  have Q8 := HQ3.out.set 0 (.int .i64 m.mn)
                  have M8 := HM3.out.other hVX 0 (.int .i64 m.mn)
                  have A8 := HA3.out.other hXX 0 (.int .i64 m.mn)
                  have N8 := HN3.out.set_ne HQ3.out (by decide) hXw 0 (.int .i64 m.mn)
                  have O8 := HSZ.out wz 0 (.int .i64 m.mn)
                  obtain ⟨w8, hw8⟩ : ∃ w8, w8 = wz.setCell ⟨X + 1, 0, none⟩ (.int .i64 m.mn) := ⟨_, rfl⟩
                  rw [← hw8] at Q8 M8 A8 N8 O8 ⊢
                  have q1 : w8.cell? ⟨X + 1, 1, none⟩ = some (.int .i64 p.to_) := Q8.cell (i := 1) rfl
                  have f1 := Q8.free 1
                  have m2' : w8.cell? ⟨V, 2, none⟩ = some (.int .i64 m.mx) := M8.cell (i := 2) rfl
                  have HQ9 := Lib.hid (Q8.set 1 (.int .i64 m.mx))
                  have HM9 := Lib.hid (M8.other hVX 1 (.int .i64 m.mx))
                  have HA9 := Lib.hid (A8.other hXX 1 (.int .i64 m.mx))
                  have HN9 := Lib.hid (N8.set_ne Q8 (by decide) hXw 1 (.int .i64 m.mx))
                  have HO9 : Hid (∀ u, (Value.slice PA p.ms.length pc).ownBlock = some u → u < (w8.setCell ⟨X + 1, 1, none⟩ (.int .i64 m.mx)).heap.size) := Lib.hid (fun u hu => by rw [HSZ.out, O8]; exact HOW3.out u hu)
                  clear hw8 Q8 M8 A8 N8 O8 q0 f0 m0' m1 m2 m3 m4 m5 m6 m7
                  go_wp2_with fail
                  go_meet
                  case rel => exact ⟨rfl, rfl, rfl, rfl, rfl, HM9, HA9, HQ9, HN9, HO9⟩
                · have hz' : ((p.ms.length : Int) == 0) = false := by rw [beq_eq_false_iff_ne]; omega
                  have hF := HF.out
                  have hU := HU.out
                  rw [if_neg hz] at hF hU
                  subst hF; subst hU
                  go_wp2_with fail
                  go_meet
                  case rel => exact ⟨rfl, rfl, rfl, rfl, rfl, HM3, HA3, HQ3, HN3, HOW3⟩
              case rest =>
                obtain ⟨rfl, rfl, rfl, rfl, rfl, HM6, HA6, HQ6, HN6, HO6⟩ := hcut
                clear HM3 HA3 HQ3 HN3 HOW3 m0' m1 m2 m3 m4 m5 m6 m7 q3
                go_upto_region 20 with fail
                obtain ⟨xs, hxs, hnb, hma⟩ := HN6.out
                have hxl := map_len hxs
                have HXS := Lib.hid hxs
                have HMX := Lib.hid hma
                have HNB := Lib.hid hnb
                rw [hxl] at HNB
                have HXL := Lib.hid hxl
                have q3 : wc.cell? ⟨X + 1, 3, none⟩ = some (.slice PA p.ms.length pc) := HQ6.out.cell (i := 3) rfl
                obtain ⟨n0, n1, n2, n3, n4, n5, n6, n7⟩ := HM6.out.c8
                clear hxs hma hnb hxl
                go_upto_region 21 with (at_builtin; refine wpList_append_nlit rfl (.tmp 102) (.tmp 104) 36 rfl rmeta_ty rfl HNB.out rfl (by simp) rfl (by simp [Value.oneCell']) (by simp only [maxLen]; omega) (by omega) ?_; intro v3 w3 hn3 ha3; obtain ⟨A3', c3, rfl, hc3⟩ := hn3.buf.shape; have Y3 := (HQ6.out.alloc _).ap (HNB.out.alloc _).buf ha3 (by decide); have HD3 := Lib.hid (And.intro hn3 ha3); clear hn3 ha3; have HY3 := Lib.hid Y3; have d3 := Y3.cell (i := 3) rfl; have f3 := Y3.free 3; clear Y3)
                have M3 := blk_ap_ne (HM6.out.alloc (.cells #[.string (bs m.id), .int .i64 m.mn, .int .i64 m.mx, .int .i64 m.lv, .int .i64 m.sr, .int .i64 m.sm, .slice x.fa m.fs.length x.fc, .slice x.sa m.ss.length x.sc] 67)) HD3.out.2 HOV.out
                have A3 := (HA6.out.alloc (.cells #[.string (bs m.id), .int .i64 m.mn, .int .i64 m.mx, .int .i64 m.lv, .int .i64 m.sr, .int .i64 m.sm, .slice x.fa m.fs.length x.fc, .slice x.sa m.ss.length x.sc] 67)).ap (HNB.out.alloc _).buf HD3.out.2 (by decide)
                have hn3 := HD3.out.1
                rw [← HXL.out] at hn3
                have N3 := NMs.snoc HXS.out HMX.out HX.out HMA.out hn3
                rw [HXL.out] at N3
                have O3 := HD3.out.1.lt (by simp)
                have HM9 := Lib.hid (M3.other hVX 3 (.slice A3' (p.ms.length + 1) c3))
                have HA9 := Lib.hid (A3.other hXX 3 (.slice A3' (p.ms.length + 1) c3))
                have HQ9 := Lib.hid (HY3.out.set 3 (.slice A3' (p.ms.length + 1) c3))
                have HN9 := Lib.hid (N3.set_ne HY3.out (by decide) hXw 3 (.slice A3' (p.ms.length + 1) c3))
                have HO9 : Hid (∀ u, (Value.slice A3' (p.ms.length + 1) c3).ownBlock = some u → u < (w3.setCell ⟨X + 1, 3, none⟩ (.slice A3' (p.ms.length + 1) c3)).heap.size) := Lib.hid (fun u hu => by rw [HSZ.out]; exact O3 u hu)
                obtain ⟨w9, hw9⟩ : ∃ w9, w9 = w3.setCell ⟨X + 1, 3, none⟩ (.slice A3' (p.ms.length + 1) c3) := ⟨_, rfl⟩
                rw [← hw9] at HM9 HA9 HQ9 HN9 HO9 ⊢
                clear hw9 HOV M3 A3 hn3 N3 O3 HD3 HY3 d3 f3 HM6 HA6 HQ6 HN6 HO6 HNB HXS HMX HXL q3 n0 n1 n2 n3 n4 n5 n6 n7 HX HMA
                have qc : w9.cell? ⟨X + 1, 0, none⟩ = some (.int .i64 F) := HQ9.out.cell (i := 0) rfl
                have qf := HQ9.out.free 0
                have mc : w9.cell? ⟨V, 1, none⟩ = some (.int .i64 m.mn) := HM9.out.cell (i := 1) rfl
                go_upto_region 22 with fail
                have HM10 := Lib.hid (HM9.out.other hVX 0 (.int .i64 (min F m.mn)))
                have HA10 := Lib.hid (HA9.out.other hXX 0 (.int .i64 (min F m.mn)))
                have HN10 := Lib.hid (HN9.out.set_ne HQ9.out (by decide) hXw 0 (.int .i64 (min F m.mn)))
                have HQ10 := Lib.hid (HQ9.out.set 0 (.int .i64 (min F m.mn)))
                have HO10 : Hid (∀ u, (Value.slice A3' (p.ms.length + 1) c3).ownBlock = some u → u < (w9.setCell ⟨X + 1, 0, none⟩ (.int .i64 (min F m.mn))).heap.size) := Lib.hid (fun u hu => by rw [HSZ.out]; exact HO9.out u hu)
                obtain ⟨w10, hw10⟩ : ∃ w10, w10 = w9.setCell ⟨X + 1, 0, none⟩ (.int .i64 (min F m.mn)) := ⟨_, rfl⟩
                rw [← hw10] at HM10 HA10 HQ10 HN10 HO10 ⊢
                clear hw10 qc qf mc HM9 HA9 HQ9 HN9 HO9
                have qc : w10.cell? ⟨X + 1, 1, none⟩ = some (.int .i64 U) := HQ10.out.cell (i := 1) rfl
                have qf := HQ10.out.free 1
                have mc : w10.cell? ⟨V, 2, none⟩ = some (.int .i64 m.mx) := HM10.out.cell (i := 2) rfl
                go_upto_region 23 with fail
                have HM11 := Lib.hid (HM10.out.other hVX 1 (.int .i64 (max U m.mx)))
                have HA11 := Lib.hid (HA10.out.other hXX 1 (.int .i64 (max U m.mx)))
                have HN11 := Lib.hid (HN10.out.set_ne HQ10.out (by decide) hXw 1 (.int .i64 (max U m.mx)))
                have HQ11 := Lib.hid (HQ10.out.set 1 (.int .i64 (max U m.mx)))
                have HO11 : Hid (∀ u, (Value.slice A3' (p.ms.length + 1) c3).ownBlock = some u → u < (w10.setCell ⟨X + 1, 1, none⟩ (.int .i64 (max U m.mx))).heap.size) := Lib.hid (fun u hu => by rw [HSZ.out]; exact HO10.out u hu)
                obtain ⟨w11, hw11⟩ : ∃ w11, w11 = w10.setCell ⟨X + 1, 1, none⟩ (.int .i64 (max U m.mx)) := ⟨_, rfl⟩
                rw [← hw11] at HM11 HA11 HQ11 HN11 HO11 ⊢
                clear hw11 qc qf mc HM10 HA10 HQ10 HN10 HO10
                have qc : w11.cell? ⟨X + 1, 2, none⟩ = some (.int .i64 p.lv) := HQ11.out.cell (i := 2) rfl
                have qf := HQ11.out.free 2
                have mc : w11.cell? ⟨V, 3, none⟩ = some (.int .i64 m.lv) := HM11.out.cell (i := 3) rfl
                go_wp2_with fail
                have HM12 := Lib.hid (HM11.out.other hVX 2 (.int .i64 (max p.lv m.lv)))
                have HA12 := Lib.hid (HA11.out.other hXX 2 (.int .i64 (max p.lv m.lv)))
                have HN12 := Lib.hid (HN11.out.set_ne HQ11.out (by decide) hXw 2 (.int .i64 (max p.lv m.lv)))
                have HQ12 := Lib.hid (HQ11.out.set 2 (.int .i64 (max p.lv m.lv)))
                have HO12 : Hid (∀ u, (Value.slice A3' (p.ms.length + 1) c3).ownBlock = some u → u < (w11.setCell ⟨X + 1, 2, none⟩ (.int .i64 (max p.lv m.lv))).heap.size) := Lib.hid (fun u hu => by rw [HSZ.out]; exact HO11.out u hu)
                obtain ⟨w12, hw12⟩ : ∃ w12, w12 = w11.setCell ⟨X + 1, 2, none⟩ (.int .i64 (max p.lv m.lv)) := ⟨_, rfl⟩
                rw [← hw12] at HM12 HA12 HQ12 HN12 HO12 ⊢
                clear hw12 qc qf mc HM11 HA11 HQ11 HN11 HO11
                have hps := HPN.out
                have hlen : (p.ms ++ [m]).length = p.ms.length + 1 := by simp
                obtain ⟨PP, hPP⟩ : ∃ PP, PP = add p m := ⟨_, rfl⟩
                have hfr : PP.fr = min F m.mn := by rw [hPP, HADD.out]
                have hto : PP.to_ = max U m.mx := by rw [hPP, HADD.out]
                have hlv : PP.lv = max p.lv m.lv := by rw [hPP, HADD.out]
                have hms : PP.ms = p.ms ++ [m] := by rw [hPP, HADD.out]
                rw [← hPP] at HO4 hps
                have HQF : Hid (Blk w12 (X + 1) 38 #[.int .i64 PP.fr, .int .i64 PP.to_, .int .i64 PP.lv, .slice A3' (p.ms.length + 1) c3]) := Lib.hid (by rw [hfr, hto, hlv]; exact HQ12.out)
                have HNF : Hid (NMs w0 w w12 67 (.slice A3' (p.ms.length + 1) c3) PP.ms) := Lib.hid (by rw [hms]; exact HN12.out)
                clear hlen hPP hfr hto hlv hms HQ12 HN12 HADD HPN HF HU
                go_roundw
                case rel => exact ⟨k + 1, b1, s1, a1, false, PP, _, by go_num, by omega, by omega, rfl, rfl, rfl, rfl, hb2.1, hb2.2, hs2.1, hs2.2, ha2.1, ha2.2, fun _ => ⟨h1, h2, h3⟩, hps, HO4, HA12, HQF, HNF, HO12⟩
                case measure => simp [intOf]; omega
end Go.Proofs.Ytemmgejaoegpfaa
