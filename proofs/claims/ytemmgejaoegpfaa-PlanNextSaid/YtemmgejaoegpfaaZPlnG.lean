/-
  Layer 20: a block's size; the plan of a list of blocks.
-/
import Derived.Test.YtemmgejaoegpfaaZPlnC
import Derived.BigQuiet
import Derived.BigRegion
import Derived.Deep.QuietTactic

namespace Go.Proofs.Ytemmgejaoegpfaa
open Go.RowKit Go.Bar Go.Bar.Leb Go.Bar.Frm Go.Bar.Idt Go.Bar.Met Go.Bar.Pln

set_option maxHeartbeats 2000000 in
set_option maxRecDepth 10000 in
theorem size_any (m : Mt) (fa sa : Option Addr) (fc sc : Nat) (w : World) (h : FlsAt w (.slice fa m.fs.length fc) m.fs) (hs : Sm m) :
    Calls Try.prog 37 #[.agg #[.string (bs m.id), .int .i64 m.mn, .int .i64 m.mx, .int .i64 m.lv, .int .i64 m.sr, .int .i64 m.sm, .slice fa m.fs.length fc, .slice sa m.ss.length sc]] w (RetBelow w (.int .i64 (size m))) := by
  obtain ⟨f, g, hfs, hf1, hf2, hg1, hg2⟩ := hs.fs
  have hsz : size m = f.size + g.size := by unfold size; rw [hfs]; rfl
  rw [hsz]
  obtain ⟨b, o, rfl, hb, _, e1, _⟩ := h.at_ (i := 0) (f := f) (by rw [hfs]; rfl)
  obtain ⟨b', o', hA, _, _, e2, _⟩ := h.at_ (i := 1) (f := g) (by rw [hfs]; rfl)
  injection hA with hA
  injection hA with h1 h2 _
  subst h1; subst h2
  have hl : m.fs.length = 2 := by rw [hfs]; rfl
  rw [hl]
  obtain ⟨L, hL⟩ : ∃ L, L = m.ss.length := ⟨_, rfl⟩
  rw [← hL]
  clear hL hl hfs hsz h
  rw [Nat.zero_mul, Nat.add_zero] at e1
  rw [Nat.one_mul] at e2
  have q1 : ∀ n ob, ((w.alloc ob).drewN n).cell? ⟨b, o + 1, none⟩ = some (.int .i64 f.size) := fun n ob => ((below_al w ob).cell (p := ⟨b, o + 1, none⟩) hb).trans e1
  have q2 : ∀ n ob, ((w.alloc ob).drewN n).cell? ⟨b, o + 3 + 1, none⟩ = some (.int .i64 g.size) := fun n ob => ((below_al w ob).cell (p := ⟨b, o + 3 + 1, none⟩) hb).trans e2
  go_enter Try.func37, Try.ntmps37
  go_wp2_with fail
  go_quiet (fail)
  go_wp2_with fail
  go_ret
  exact ⟨rfl, below_drewN (below_al _ _) _⟩

theorem size_rng {m : Mt} (h : Sm m) : 0 ≤ size m ∧ size m ≤ 2000000 := by
  obtain ⟨f, g, hfs, hf1, hf2, hg1, hg2⟩ := h.fs
  have hsz : size m = f.size + g.size := by unfold size; rw [hfs]; rfl
  rw [hsz]; omega
/-- a plan, made by the call -/
def plV (p : Pl) (v : Value) : Value := .agg #[.int .i64 p.fr, .int .i64 p.to_, .int .i64 p.lv, v]
def RetPl (w0 w : World) (p : Pl) (e : Ending) (w' : World) : Prop := ∃ v, e = .returned (.tuple #[plV p v, .bool (decide (1 < p.ms.length))]) ∧ NMs w0 w w' 55 v p.ms
/-- the numbers of a plan are small -/
structure PlS (p : Pl) : Prop where
  fr : 0 ≤ p.fr ∧ p.fr ≤ 1000000
  to_ : 0 ≤ p.to_ ∧ p.to_ ≤ 1000000
  lv : 0 ≤ p.lv ∧ p.lv ≤ 1000
  ms : p.ms.length ≤ 20
theorem PlS.add {p : Pl} {m : Mt} (h : PlS p) (hm : Sm m) (hn : p.ms.length ≠ 20) : PlS (add p m) := by
  have h1 := h.fr; have h2 := h.to_; have h3 := h.lv; have h4 := h.ms; have g1 := hm.mn; have g2 := hm.mx; have g3 := hm.lv
  unfold Pln.add
  refine ⟨?_, ?_, ?_, ?_⟩
  · show 0 ≤ min (if p.ms.length = 0 then m.mn else p.fr) m.mn ∧ min (if p.ms.length = 0 then m.mn else p.fr) m.mn ≤ 1000000
    split <;> omega
  · show 0 ≤ max (if p.ms.length = 0 then m.mx else p.to_) m.mx ∧ max (if p.ms.length = 0 then m.mx else p.to_) m.mx ≤ 1000000
    split <;> omega
  · show 0 ≤ max p.lv m.lv ∧ max p.lv m.lv ≤ 1000
    omega
  · show (p.ms ++ [m]).length ≤ 20
    simp; omega

set_option maxHeartbeats 8000000 in
set_option maxRecDepth 10000 in
theorem of_any (v : Value) (l : List Mt) (w0 w : World) (hw : Below w0.heap.size w0 w) (h : MsAt w0 w v l) (hsm : ∀ m ∈ l, Sm m) (hl : l.length ≤ 1000) :
    Calls Try.prog 22 #[v] w (RetPl w0 w (of l)) := by
  obtain ⟨A, c, rfl, hlc, hcm⟩ := h.shape
  unfold maxLen at hcm
  have HSM := Lib.hid hsm
  have HW := Lib.hid hw
  obtain ⟨R, hR⟩ : ∃ R, R = ofGo l 0 0 0 pl0 := ⟨_, rfl⟩
  have HR := Lib.hid hR
  have hof : of l = fin R := by rw [hR]; rfl
  rw [hof]
  clear hsm hw hR hof
  go_enter Try.func22, Try.ntmps22
  go_wp2_with fail
  have P0 := (Blk.new w #[.int .i64 0, .int .i64 0, .int .i64 0, .slice none 0 0] 33).alloc (.cells #[.int .i64 0, .int .i64 0, .int .i64 0, .slice none 0 0] 33)
  have Q0 := Blk.new (w.alloc (.cells #[.int .i64 0, .int .i64 0, .int .i64 0, .slice none 0 0] 33)) #[.int .i64 0, .int .i64 0, .int .i64 0, .slice none 0 0] 33
  have B0 := below_trans (below_al w (.cells #[.int .i64 0, .int .i64 0, .int .i64 0, .slice none 0 0] 33)) (below_al _ (.cells #[.int .i64 0, .int .i64 0, .int .i64 0, .slice none 0 0] 33))
  rw [show (w.alloc (.cells #[.int .i64 0, .int .i64 0, .int .i64 0, .slice none 0 0] 33)).heap.size = w.heap.size + 1 by simp] at Q0
  obtain ⟨w1, hw1⟩ : ∃ w1, w1 = (w.alloc (.cells #[.int .i64 0, .int .i64 0, .int .i64 0, .slice none 0 0] 33)).alloc (.cells #[.int .i64 0, .int .i64 0, .int .i64 0, .slice none 0 0] 33) := ⟨_, rfl⟩
  rw [← hw1] at P0 Q0 B0 ⊢
  clear hw1
  go_loopw [5, 6, 7, 12] (fun vb vs va i wr => ∃ (k : Nat) (b s a : Int) (p : Pl) (pv : Value), i = .int .i64 k ∧ k ≤ l.length ∧ vb = .int .i64 b ∧ vs = .int .i64 s ∧ va = .int .i64 a ∧ 0 ≤ b ∧ b ≤ 262144 ∧ 0 ≤ s ∧ s ≤ 10000 ∧ 0 ≤ a ∧ a ≤ 40000 ∧ PlS p ∧ Hid (ofGo (l.drop k) b s a p = R) ∧
    Blk wr w.heap.size 33 #[.int .i64 0, .int .i64 0, .int .i64 0, .slice none 0 0] ∧ Blk wr (w.heap.size + 1) 33 #[.int .i64 p.fr, .int .i64 p.to_, .int .i64 p.lv, pv] ∧ NMs w0 w wr 55 pv p.ms) (fun _ _ _ i _ => l.length - (intOf i).toNat)
  case atStart => exact ⟨0, 0, 0, 0, pl0, _, rfl, Nat.zero_le _, rfl, rfl, rfl, by decide, by decide, by decide, by decide, by decide, by decide, ⟨by decide, by decide, by decide, by decide⟩, Lib.hid HR.out.symm, P0, Q0, NMs.nil B0 _ _⟩
  case round =>
    obtain ⟨k, b, s, a, p, pv, rfl, hk, rfl, rfl, rfl, hb0, hb1, hs0, hs1, ha0, ha1, hP, HO, hA, hQ, hN⟩ := hrel
    clear P0 Q0 B0
    obtain ⟨PA, pc, rfl, hpc, hpm⟩ := hN.shape
    unfold maxLen at hpm
    by_cases hgo : k < l.length
    · obtain ⟨m, hmk⟩ : ∃ m, l[k]? = some m := ⟨_, List.getElem?_eq_getElem hgo⟩
      obtain ⟨bb, o, x, rfl, _, hxm, hma, c0, c1, c2, c3, c4, c5, c6, c7⟩ := (h.below hN.below_).at_ hmk
      have hdr : l.drop k = m :: l.drop (k + 1) := by
        rw [List.drop_eq_getElem_cons hgo]
        rw [List.getElem?_eq_getElem hgo] at hmk
        injection hmk with hmk
        rw [hmk]
      have ho := HO.out
      rw [hdr] at ho
      unfold ofGo at ho
      have HO2 := Lib.hid ho
      have hs := HSM.out m (List.mem_of_getElem? hmk)
      have hsz := size_rng hs
      have HS := Lib.hid hs
      have hms : FlsAt w (.slice x.fa m.fs.length x.fc) m.fs := by rw [← hxm]; exact (hma.below HW.out).1
      have hsc := fun w' hb => size_any m x.fa x.sa x.fc x.sc w' (hms.below hb) hs
      have HSC := Lib.hid hsc
      have hsr := hs.sr
      have hsm2 := hs.sm
      have HX := Lib.hid hxm
      have HMA := Lib.hid hma
      clear hmk hdr ho hs hms hsc hxm hma HO
      have hci : (0 : Int) ≤ (k : Int) := by omega
      have hB4 := below_trans hN.below_ (below_al wr (.cells #[.string (bs m.id), .int .i64 m.mn, .int .i64 m.mx, .int .i64 m.lv, .int .i64 m.sr, .int .i64 m.sm, .slice x.fa m.fs.length x.fc, .slice x.sa m.ss.length x.sc] 55))
      have T4 := Blk.new wr #[.string (bs m.id), .int .i64 m.mn, .int .i64 m.mx, .int .i64 m.lv, .int .i64 m.sr, .int .i64 m.sm, .slice x.fa m.fs.length x.fc, .slice x.sa m.ss.length x.sc] 55
      have hA4 := hA.alloc (.cells #[.string (bs m.id), .int .i64 m.mn, .int .i64 m.mx, .int .i64 m.lv, .int .i64 m.sr, .int .i64 m.sm, .slice x.fa m.fs.length x.fc, .slice x.sa m.ss.length x.sc] 55)
      have hQ4 := hQ.alloc (.cells #[.string (bs m.id), .int .i64 m.mn, .int .i64 m.mx, .int .i64 m.lv, .int .i64 m.sr, .int .i64 m.sm, .slice x.fa m.fs.length x.fc, .slice x.sa m.ss.length x.sc] 55)
      have hN4 := hN.alloc (.cells #[.string (bs m.id), .int .i64 m.mn, .int .i64 m.mx, .int .i64 m.lv, .int .i64 m.sr, .int .i64 m.sm, .slice x.fa m.fs.length x.fc, .slice x.sa m.ss.length x.sc] 55)
      have hlt := hQ.lt
      clear hA hQ hN
      go_wp2_with fail
      refine (HSC.out _ hB4).mono ?_
      rintro e w5 ⟨rfl, hb5⟩
      have T5 := T4.below hb5
      have A5 := hA4.below hb5
      have Q5 := hQ4.below hb5
      have N5 := hN4.then_below hb5
      clear T4 hA4 hQ4 hN4 hB4 hb5 c0 c1 c2 c3 c4 c5 c6 c7 HSC
      have t0 : w5.cell? ⟨wr.heap.size, 0, none⟩ = some (.string (bs m.id)) := T5.cell (i := 0) rfl
      have t1 : w5.cell? ⟨wr.heap.size, 1, none⟩ = some (.int .i64 m.mn) := T5.cell (i := 1) rfl
      have t2 : w5.cell? ⟨wr.heap.size, 2, none⟩ = some (.int .i64 m.mx) := T5.cell (i := 2) rfl
      have t3 : w5.cell? ⟨wr.heap.size, 3, none⟩ = some (.int .i64 m.lv) := T5.cell (i := 3) rfl
      have t4 : w5.cell? ⟨wr.heap.size, 4, none⟩ = some (.int .i64 m.sr) := T5.cell (i := 4) rfl
      have t5 : w5.cell? ⟨wr.heap.size, 5, none⟩ = some (.int .i64 m.sm) := T5.cell (i := 5) rfl
      have t6 : w5.cell? ⟨wr.heap.size, 6, none⟩ = some (.slice x.fa m.fs.length x.fc) := T5.cell (i := 6) rfl
      have t7 : w5.cell? ⟨wr.heap.size, 7, none⟩ = some (.slice x.sa m.ss.length x.sc) := T5.cell (i := 7) rfl
      have q3 : w5.cell? ⟨w.heap.size + 1, 3, none⟩ = some (.slice PA p.ms.length pc) := Q5.cell (i := 3) rfl
      obtain ⟨V, hV⟩ : ∃ V, V = decide (over (b + size m) (s + m.sr) (a + m.sm) p.ms.length) := ⟨_, rfl⟩
      have HV := Lib.hid hV
      clear hV
      go_upto_region 9 with fail
      go_cut [12, 43] from 12 to 78 (fun i g wx => i = .int .i64 k ∧ g = .bool V ∧ w5 = wx)
      case first =>
        by_cases h1 : 262144 < b + size m
        · have hv : V = true := by rw [HV.out]; exact decide_eq_true (.inl h1)
          subst hv
          go_wp2_with fail
          go_meet
          exact ⟨rfl, rfl, rfl⟩
        · by_cases h2 : 10000 < s + m.sr
          · have hv : V = true := by rw [HV.out]; exact decide_eq_true (.inr (.inl h2))
            subst hv
            go_wp2_with fail
            go_meet
            exact ⟨rfl, rfl, rfl⟩
          · by_cases h3 : 40000 < a + m.sm
            · have hv : V = true := by rw [HV.out]; exact decide_eq_true (.inr (.inr (.inl h3)))
              subst hv
              go_wp2_with fail
              go_meet
              exact ⟨rfl, rfl, rfl⟩
            · by_cases h4 : p.ms.length = 20
              · have hv : V = true := by rw [HV.out]; exact decide_eq_true (.inr (.inr (.inr h4)))
                subst hv
                have h4' : ((p.ms.length : Int) == 20) = true := by rw [beq_iff_eq]; omega
                go_wp2_with fail
                go_meet
                exact ⟨rfl, rfl, rfl⟩
              · have hv : V = false := by
                  rw [HV.out]
                  exact decide_eq_false (fun e => by rcases e with e | e | e | e <;> omega)
                subst hv
                have h4' : ((p.ms.length : Int) == 20) = false := by rw [beq_eq_false_iff_ne]; omega
                go_wp2_with fail
                go_meet
                exact ⟨rfl, rfl, rfl⟩
      case rest =>
      obtain ⟨rfl, rfl, rfl⟩ := hcut
      clear t4 t5
      by_cases hov : over (b + size m) (s + m.sr) (a + m.sm) p.ms.length
      · have hv : V = true := by rw [HV.out]; exact decide_eq_true hov
        have ho := HO2.out
        rw [if_pos hov] at ho
        subst hv
        subst ho
        clear hov HO2 HV t0 t1 t2 t3 t6 t7 q3 T5
        have q2 : w5.cell? ⟨w.heap.size + 1, 2, none⟩ = some (.int .i64 p.lv) := Q5.cell (i := 2) rfl
        have f2 := Q5.free 2
        have Q8 := Q5.set 2 (.int .i64 (min (p.lv + 1) 9))
        have A8 := A5.other (show w.heap.size ≠ w.heap.size + 1 by omega) 2 (.int .i64 (min (p.lv + 1) 9))
        have N8 := N5.set_ne Q5 (by decide) (show w.heap.size ≤ w.heap.size + 1 by omega) 2 (.int .i64 (min (p.lv + 1) 9))
        have hlvr := hP.lv
        have hmsr := hP.ms
        go_upto_region 16 with fail
        obtain ⟨w8, hw8⟩ : ∃ w8, w8 = w5.setCell ⟨w.heap.size + 1, 2, none⟩ (.int .i64 (min (p.lv + 1) 9)) := ⟨_, rfl⟩
        rw [← hw8] at Q8 A8 N8 ⊢
        clear hw8 q2 f2
        have HQ8 := Lib.hid Q8
        have HA8 := Lib.hid A8
        have HN8 := Lib.hid N8
        clear Q8 A8 N8
        have hdec : decide ((1 : Int) < (p.ms.length : Int)) = decide (1 < p.ms.length) := by rw [decide_eq_decide]; omega
        refine Dn.wp_region_states [(0, .agg #[.int .i64 p.fr, .int .i64 p.to_, .int .i64 (min (p.lv + 1) 9), .slice PA p.ms.length pc]), (2, .slice PA p.ms.length pc), (5, undef)]
          (fun D w' => Fr (fun k _ => k = w.heap.size) w8 w' ∧ Sw 5 (fun w' => Blk w' w.heap.size 33 #[.int .i64 0, .int .i64 0, .int .i64 0, .slice none 0 0]) (fun w' => Blk w' w.heap.size 33 #[.int .i64 p.fr, .int .i64 p.to_, .int .i64 (min (p.lv + 1) 9), .slice PA p.ms.length pc]) D w') (by kernel_rfl) 89 (by kernel_rfl) rfl
          (fun i D w' hi hx => ⟨hx.1, hx.2.same (lookup_ne' rfl hi)⟩)
          ⟨Fr.of_below (Below.refl _ _).drew, Sw.start HA8.out.drew⟩ ?_
        repeat (first
          | (refine Dn.Chain.step (v := ?_) (a' := ?_) rfl rfl rfl ?_ ?_ ?_
             rotate_left 2
             focus (intro w; go_simp; try with_reducible rfl)
             focus (simp only [Act.put, List.setIfInBounds_toArray, List.set_cons_succ, List.set_cons_zero]; try rfl))
          | (refine Dn.Chain.call (a' := ?_) _ rfl rfl rfl (fun D wx hx hD hp => ?_) ?_ ?_
             rotate_left 1
             focus
               first
               | (obtain ⟨hf, hs⟩ := hx
                  have QX := HQ8.out.fr hf (fun i (e : w.heap.size + 1 = w.heap.size) => by omega)
                  have x0 : wx.cell? ⟨w.heap.size + 1, 0, none⟩ = some (.int .i64 p.fr) := QX.cell (i := 0) rfl
                  have x1 : wx.cell? ⟨w.heap.size + 1, 1, none⟩ = some (.int .i64 p.to_) := QX.cell (i := 1) rfl
                  have x2 : wx.cell? ⟨w.heap.size + 1, 2, none⟩ = some (.int .i64 (min (p.lv + 1) 9)) := QX.cell (i := 2) rfl
                  have x3 : wx.cell? ⟨w.heap.size + 1, 3, none⟩ = some (.slice PA p.ms.length pc) := QX.cell (i := 3) rfl
                  clear QX
                  go_simp
                  (repeat' (with_reducible apply And.intro)) <;> first | exact rfl | exact hf | exact hs.same (by decide))
               | (obtain ⟨hf, hs⟩ := hx
                  have AX := hs.1 hD
                  have y0 : wx.cell? ⟨w.heap.size, 0, none⟩ = some (.int .i64 0) := AX.cell (i := 0) rfl
                  have y1 : wx.cell? ⟨w.heap.size, 1, none⟩ = some (.int .i64 0) := AX.cell (i := 1) rfl
                  have y2 : wx.cell? ⟨w.heap.size, 2, none⟩ = some (.int .i64 0) := AX.cell (i := 2) rfl
                  have y3 : wx.cell? ⟨w.heap.size, 3, none⟩ = some (.slice none 0 0) := AX.cell (i := 3) rfl
                  have z0 := AX.free 0
                  have z1 := AX.free 1
                  have z2 := AX.free 2
                  have z3 := AX.free 3
                  have HAX := Lib.hid AX
                  clear AX
                  go_simp
                  (repeat' (with_reducible apply And.intro)) <;> first | exact rfl | exact (((hf.setCell (fun _ => rfl) _).setCell (fun _ => rfl) _).setCell (fun _ => rfl) _).setCell (fun _ => rfl) _ | exact Sw.done ((((HAX.out.set 0 _).set 1 _).set 2 _).set 3 _))
             focus (simp only [Act.put, List.setIfInBounds_toArray, List.set_cons_succ, List.set_cons_zero]; try rfl))
          | (refine Dn.Chain.skip (a' := ?_) rfl rfl rfl ?_ ?_
             rotate_left 1
             focus (simp only [Act.put, List.setIfInBounds_toArray, List.set_cons_succ, List.set_cons_zero]; try rfl)))
        refine Dn.Chain.end_ (fun D w9 hDD hx => ?_)
        obtain ⟨hf9, hs9⟩ := hx
        have A9 := hs9.2 (hDD 5 (by decide))
        have N9 := HN8.out.fr_ne HA8.out (by decide) (Nat.le_refl _) hf9
        have HN9 := Lib.hid N9
        have y0 : w9.cell? ⟨w.heap.size, 0, none⟩ = some (.int .i64 p.fr) := A9.cell (i := 0) rfl
        have y1 : w9.cell? ⟨w.heap.size, 1, none⟩ = some (.int .i64 p.to_) := A9.cell (i := 1) rfl
        have y2 : w9.cell? ⟨w.heap.size, 2, none⟩ = some (.int .i64 (min (p.lv + 1) 9)) := A9.cell (i := 2) rfl
        have y3 : w9.cell? ⟨w.heap.size, 3, none⟩ = some (.slice PA p.ms.length pc) := A9.cell (i := 3) rfl
        clear N9 A9 hs9 hf9 hDD
        go_wp2_with fail
        refine bodyPost_ret (v := .tuple #[plV (fin p) (.slice PA p.ms.length pc), .bool (decide (1 < p.ms.length))]) (by simp [results, Try.results22, go_sem, plV, fin, y0, y1, y2, y3]) rfl ?_
        exact ⟨_, rfl, HN9.out⟩
      · have hv : V = false := by rw [HV.out]; exact decide_eq_false hov
        subst hv
        have ho := HO2.out
        rw [if_neg hov] at ho
        have HO3 := Lib.hid ho
        unfold over at hov
        have h1 : ¬ 262144 < b + size m := fun e => hov (.inl e)
        have h2 : ¬ 10000 < s + m.sr := fun e => hov (.inr (.inl e))
        have h3 : ¬ 40000 < a + m.sm := fun e => hov (.inr (.inr (.inl e)))
        have h4 : p.ms.length ≠ 20 := fun e => hov (.inr (.inr (.inr e)))
        clear ho hov HO2 HV
        obtain ⟨F, hF⟩ : ∃ F, F = if p.ms.length = 0 then m.mn else p.fr := ⟨_, rfl⟩
        obtain ⟨U, hU⟩ : ∃ U, U = if p.ms.length = 0 then m.mx else p.to_ := ⟨_, rfl⟩
        have hadd : add p m = ⟨min F m.mn, max U m.mx, max p.lv m.lv, p.ms ++ [m]⟩ := by rw [hF, hU]; rfl
        have HADD := Lib.hid hadd
        have HF := Lib.hid hF
        have HU := Lib.hid hU
        clear hF hU hadd
        go_upto_if 47 with fail
        go_cut [12, 49] from 12 to 78 (fun i _ wx => i = .int .i64 k ∧ Blk wx wr.heap.size 55 #[.string (bs m.id), .int .i64 m.mn, .int .i64 m.mx, .int .i64 m.lv, .int .i64 m.sr, .int .i64 m.sm, .slice x.fa m.fs.length x.fc, .slice x.sa m.ss.length x.sc] ∧
          Blk wx w.heap.size 33 #[.int .i64 0, .int .i64 0, .int .i64 0, .slice none 0 0] ∧ Blk wx (w.heap.size + 1) 33 #[.int .i64 F, .int .i64 U, .int .i64 p.lv, .slice PA p.ms.length pc] ∧ NMs w0 w wx 55 (.slice PA p.ms.length pc) p.ms)
        case first =>
          by_cases hz : p.ms.length = 0
          · have hz' : ((p.ms.length : Int) == 0) = true := by rw [beq_iff_eq]; omega
            have hF := HF.out
            have hU := HU.out
            rw [if_pos hz] at hF hU
            subst hF; subst hU
            have q0 : w5.cell? ⟨w.heap.size + 1, 0, none⟩ = some (.int .i64 p.fr) := Q5.cell (i := 0) rfl
            have q1 : w5.cell? ⟨w.heap.size + 1, 1, none⟩ = some (.int .i64 p.to_) := Q5.cell (i := 1) rfl
            have f0 := Q5.free 0
            have f1 := Q5.free 1
            go_wp2_with fail
            go_region
            go_wp2_with fail
            go_meet
            exact ⟨rfl, ((T5.other (show wr.heap.size ≠ w.heap.size + 1 by omega) _ _).other (show wr.heap.size ≠ w.heap.size + 1 by omega) _ _).drew, ((A5.other (show w.heap.size ≠ w.heap.size + 1 by omega) _ _).other (show w.heap.size ≠ w.heap.size + 1 by omega) _ _).drew, ((Q5.set 0 _).set 1 _).drew, ((N5.set_ne Q5 (by decide) (by omega) _ _).set_ne (Q5.set _ _) (by decide) (by omega) _ _).drew⟩
          · have hz' : ((p.ms.length : Int) == 0) = false := by rw [beq_eq_false_iff_ne]; omega
            have hF := HF.out
            have hU := HU.out
            rw [if_neg hz] at hF hU
            subst hF; subst hU
            go_wp2_with fail
            go_meet
            exact ⟨rfl, T5, A5, Q5, N5⟩
        case rest =>
        obtain ⟨rfl, T6, A6, Q6, N6⟩ := hcut
        clear t0 t1 t2 t3 t6 t7 q3 T5 A5 Q5 N5
        have t0 : wc.cell? ⟨wr.heap.size, 0, none⟩ = some (.string (bs m.id)) := T6.cell (i := 0) rfl
        have t1 : wc.cell? ⟨wr.heap.size, 1, none⟩ = some (.int .i64 m.mn) := T6.cell (i := 1) rfl
        have t2 : wc.cell? ⟨wr.heap.size, 2, none⟩ = some (.int .i64 m.mx) := T6.cell (i := 2) rfl
        have t3 : wc.cell? ⟨wr.heap.size, 3, none⟩ = some (.int .i64 m.lv) := T6.cell (i := 3) rfl
        clear t0 t1 t2 t3
        have HT6 := Lib.hid T6
        have HA6 := Lib.hid A6
        have HQ6 := Lib.hid Q6
        have HN6 := Lib.hid N6
        clear T6 A6 Q6 N6
        go_upto_region 12 with fail
        refine Dn.wp_region_states [(1, .int .i64 F), (3, .int .i64 m.mn), (6, .int .i64 U), (8, .int .i64 m.mx), (11, .int .i64 p.lv), (13, .int .i64 m.lv), (16, undef), (18, undef), (20, undef)]
          (fun D w' => Af 16 1 D ∧ Af 18 6 D ∧ Af 20 11 D ∧ Fr (fun k _ => k = w.heap.size + 1) wc w' ∧ B3 (w.heap.size + 1) 33 16 18 20 (.int .i64 F) (.int .i64 U) (.int .i64 p.lv) (.int .i64 (min F m.mn)) (.int .i64 (max U m.mx)) (.int .i64 (max p.lv m.lv)) (.slice PA p.ms.length pc) D w') (by kernel_rfl) 89 (by kernel_rfl) rfl
          (fun i D w' hi hx => ⟨hx.1.upd (lookup_ne' rfl hi), hx.2.1.upd (lookup_ne' rfl hi), hx.2.2.1.upd (lookup_ne' rfl hi), hx.2.2.2.1, hx.2.2.2.2.same (lookup_ne' rfl hi) (lookup_ne' rfl hi) (lookup_ne' rfl hi)⟩)
          ⟨Af.start, Af.start, Af.start, Fr.of_below (Below.refl _ _).drew, B3.start HQ6.out.drew⟩ ?_
        repeat (first
          | (refine Dn.Chain.step (v := ?_) (a' := ?_) rfl rfl rfl ?_ ?_ ?_
             rotate_left 2
             focus (intro w; go_simp; try with_reducible rfl)
             focus (simp only [Act.put, List.setIfInBounds_toArray, List.set_cons_succ, List.set_cons_zero]; try rfl))
          | (refine Dn.Chain.call (a' := ?_) _ rfl rfl rfl (fun D wx hx hD hp => ?_) ?_ ?_
             rotate_left 1
             focus
               first
               | (obtain ⟨a0, a1, a2, hf, hb⟩ := hx
                  have l0 : wx.cell? ⟨w.heap.size + 1, 0, none⟩ = some (.int .i64 F) := hb.load0 (a0.no hD)
                  go_simp
                  (repeat' (with_reducible apply And.intro)) <;> first | exact rfl | exact a0.upd (by decide) | exact a1.upd (by decide) | exact a2.upd (by decide) | exact hf | exact hb.same (by decide) (by decide) (by decide))
               | (obtain ⟨a0, a1, a2, hf, hb⟩ := hx
                  have l0 : wx.cell? ⟨w.heap.size + 1, 1, none⟩ = some (.int .i64 U) := hb.load1 (a1.no hD)
                  go_simp
                  (repeat' (with_reducible apply And.intro)) <;> first | exact rfl | exact a0.upd (by decide) | exact a1.upd (by decide) | exact a2.upd (by decide) | exact hf | exact hb.same (by decide) (by decide) (by decide))
               | (obtain ⟨a0, a1, a2, hf, hb⟩ := hx
                  have l0 : wx.cell? ⟨w.heap.size + 1, 2, none⟩ = some (.int .i64 p.lv) := hb.load2 (a2.no hD)
                  go_simp
                  (repeat' (with_reducible apply And.intro)) <;> first | exact rfl | exact a0.upd (by decide) | exact a1.upd (by decide) | exact a2.upd (by decide) | exact hf | exact hb.same (by decide) (by decide) (by decide))
               | (obtain ⟨a0, a1, a2, hf, hb⟩ := hx
                  have T := HT6.out.fr hf (fun i (e : wr.heap.size = w.heap.size + 1) => by omega)
                  have g1 : wx.cell? ⟨wr.heap.size, 1, none⟩ = some (.int .i64 m.mn) := T.cell (i := 1) rfl
                  have g2 : wx.cell? ⟨wr.heap.size, 2, none⟩ = some (.int .i64 m.mx) := T.cell (i := 2) rfl
                  have g3 : wx.cell? ⟨wr.heap.size, 3, none⟩ = some (.int .i64 m.lv) := T.cell (i := 3) rfl
                  clear T
                  go_simp
                  (repeat' (with_reducible apply And.intro)) <;> first | exact rfl | exact a0.upd (by decide) | exact a1.upd (by decide) | exact a2.upd (by decide) | exact hf | exact hb.same (by decide) (by decide) (by decide))
               | (obtain ⟨a0, a1, a2, hf, hb⟩ := hx
                  obtain ⟨⟨u0, l0⟩, ⟨u1, l1⟩, ⟨u2, l2⟩⟩ := hb.cellA
                  have f0 := hb.free 0
                  go_simp
                  (repeat' (with_reducible apply And.intro)) <;> first | exact rfl | exact Af.last (hp 1 (by kernel_rfl)) | exact a1.upd (by decide) | exact a2.upd (by decide) | exact hf.setCell (fun _ => rfl) _ | exact hb.set0 (by decide) (by decide))
               | (obtain ⟨a0, a1, a2, hf, hb⟩ := hx
                  obtain ⟨⟨u0, l0⟩, ⟨u1, l1⟩, ⟨u2, l2⟩⟩ := hb.cellA
                  have f0 := hb.free 1
                  go_simp
                  (repeat' (with_reducible apply And.intro)) <;> first | exact rfl | exact a0.upd (by decide) | exact Af.last (hp 6 (by kernel_rfl)) | exact a2.upd (by decide) | exact hf.setCell (fun _ => rfl) _ | exact hb.set1 (by decide) (by decide))
               | (obtain ⟨a0, a1, a2, hf, hb⟩ := hx
                  obtain ⟨⟨u0, l0⟩, ⟨u1, l1⟩, ⟨u2, l2⟩⟩ := hb.cellA
                  have f0 := hb.free 2
                  go_simp
                  (repeat' (with_reducible apply And.intro)) <;> first | exact rfl | exact a0.upd (by decide) | exact a1.upd (by decide) | exact Af.last (hp 11 (by kernel_rfl)) | exact hf.setCell (fun _ => rfl) _ | exact hb.set2 (by decide) (by decide))
             focus (simp only [Act.put, List.setIfInBounds_toArray, List.set_cons_succ, List.set_cons_zero]; try rfl))
          | (refine Dn.Chain.skip (a' := ?_) rfl rfl rfl ?_ ?_
             rotate_left 1
             focus (simp only [Act.put, List.setIfInBounds_toArray, List.set_cons_succ, List.set_cons_zero]; try rfl)))
        refine Dn.Chain.end_ (fun D w7 hDD hx => ?_)
        obtain ⟨_, _, _, hf7, hb7⟩ := hx
        have Q7 := hb7.end_ (hDD 16 (by decide)) (hDD 18 (by decide)) (hDD 20 (by decide))
        have T7 := HT6.out.fr hf7 (fun i (e : wr.heap.size = w.heap.size + 1) => by omega)
        have A7 := HA6.out.fr hf7 (fun i (e : w.heap.size = w.heap.size + 1) => by omega)
        have N7 := HN6.out.fr_ne HQ6.out (by decide) (by omega) hf7
        clear hf7 hb7 hDD HT6 HA6 HQ6 HN6
        have t0 : w7.cell? ⟨wr.heap.size, 0, none⟩ = some (.string (bs m.id)) := T7.cell (i := 0) rfl
        have t1 : w7.cell? ⟨wr.heap.size, 1, none⟩ = some (.int .i64 m.mn) := T7.cell (i := 1) rfl
        have t2 : w7.cell? ⟨wr.heap.size, 2, none⟩ = some (.int .i64 m.mx) := T7.cell (i := 2) rfl
        have t3 : w7.cell? ⟨wr.heap.size, 3, none⟩ = some (.int .i64 m.lv) := T7.cell (i := 3) rfl
        have t4 : w7.cell? ⟨wr.heap.size, 4, none⟩ = some (.int .i64 m.sr) := T7.cell (i := 4) rfl
        have t5 : w7.cell? ⟨wr.heap.size, 5, none⟩ = some (.int .i64 m.sm) := T7.cell (i := 5) rfl
        have t6 : w7.cell? ⟨wr.heap.size, 6, none⟩ = some (.slice x.fa m.fs.length x.fc) := T7.cell (i := 6) rfl
        have t7 : w7.cell? ⟨wr.heap.size, 7, none⟩ = some (.slice x.sa m.ss.length x.sc) := T7.cell (i := 7) rfl
        have q3 : w7.cell? ⟨w.heap.size + 1, 3, none⟩ = some (.slice PA p.ms.length pc) := Q7.cell (i := 3) rfl
        obtain ⟨xs, hxs, hnb, hma⟩ := N7
        have hxl := map_len hxs
        have hms20 := hP.ms
        have HXS := Lib.hid hxs
        have HM2 := Lib.hid hma
        rw [hxl] at hnb
        clear hxs hma
        have HXL := Lib.hid hxl
        clear hxl
        go_wp2_with (at_builtin; refine wpList_append_nlit rfl (.tmp 73) (.tmp 75) 23 rfl meta_ty rfl hnb rfl (by simp) rfl (by simp [Value.oneCell']) (by simp only [maxLen]; omega) (by omega) ?_; intro v3 w9 hnb9 ha9; obtain ⟨nA, nc, rfl, hnc⟩ := hnb9.buf.shape; have Q9 := (Q7.alloc _).ap (hnb.alloc _).buf ha9 (by decide); have A9 := (A7.alloc _).ap (hnb.alloc _).buf ha9 (by decide); have f3 := Q9.free 3; have q9 : w9.cell? ⟨w.heap.size + 1, 3, none⟩ = some (.slice PA p.ms.length pc) := Q9.cell (i := 3) rfl)
        have N10 : NMs w0 w w9 55 (.slice nA (p.ms.length + 1) nc) (p.ms ++ [m]) := NMs.snoc HXS.out HM2.out HX.out HMA.out (by rw [HXL.out]; exact hnb9)
        have hadd := HADD.out
        have hfin : PlS (add p m) := hP.add HS.out h4
        rw [hadd] at HO3 hfin
        have HO4 := Lib.hid HO3.out
        clear HO3 hadd HADD hnb9 ha9
        go_roundw
        case rel => exact ⟨k + 1, b + size m, s + m.sr, a + m.sm, ⟨min F m.mn, max U m.mx, max p.lv m.lv, p.ms ++ [m]⟩, _, by go_num, by omega, rfl, rfl, rfl, by omega, by omega, by omega, by omega, by omega, by omega, hfin, HO4, A9.other (by omega) 3 _, Q9.set 3 (.slice nA (p.ms.length + 1) nc), N10.set_ne Q9 (by decide) (by omega) 3 _⟩
        case measure => simp [intOf]; omega
    · obtain rfl : k = l.length := by omega
      have ho := HO.out
      rw [List.drop_length] at ho
      unfold ofGo at ho
      subst ho
      clear HO
      have q2 : wr.cell? ⟨w.heap.size + 1, 2, none⟩ = some (.int .i64 p.lv) := hQ.cell (i := 2) rfl
      have f2 := hQ.free 2
      have Q8 := hQ.set 2 (.int .i64 (min (p.lv + 1) 9))
      have A8 := hA.other (show w.heap.size ≠ w.heap.size + 1 by omega) 2 (.int .i64 (min (p.lv + 1) 9))
      have N8 := hN.set_ne hQ (by decide) (show w.heap.size ≤ w.heap.size + 1 by omega) 2 (.int .i64 (min (p.lv + 1) 9))
      have hlvr := hP.lv
      have hmsr := hP.ms
      go_upto_region 16 with fail
      obtain ⟨w8, hw8⟩ : ∃ w8, w8 = wr.setCell ⟨w.heap.size + 1, 2, none⟩ (.int .i64 (min (p.lv + 1) 9)) := ⟨_, rfl⟩
      rw [← hw8] at Q8 A8 N8 ⊢
      clear hw8 q2 f2
      have HQ8 := Lib.hid Q8
      have HA8 := Lib.hid A8
      have HN8 := Lib.hid N8
      clear Q8 A8 N8
      have hdec : decide ((1 : Int) < (p.ms.length : Int)) = decide (1 < p.ms.length) := by rw [decide_eq_decide]; omega
      refine Dn.wp_region_states [(0, .agg #[.int .i64 p.fr, .int .i64 p.to_, .int .i64 (min (p.lv + 1) 9), .slice PA p.ms.length pc]), (2, .slice PA p.ms.length pc), (5, undef)]
        (fun D w' => Fr (fun k _ => k = w.heap.size) w8 w' ∧ Sw 5 (fun w' => Blk w' w.heap.size 33 #[.int .i64 0, .int .i64 0, .int .i64 0, .slice none 0 0]) (fun w' => Blk w' w.heap.size 33 #[.int .i64 p.fr, .int .i64 p.to_, .int .i64 (min (p.lv + 1) 9), .slice PA p.ms.length pc]) D w') (by kernel_rfl) 89 (by kernel_rfl) rfl
        (fun i D w' hi hx => ⟨hx.1, hx.2.same (lookup_ne' rfl hi)⟩)
        ⟨Fr.of_below (Below.refl _ _).drew, Sw.start HA8.out.drew⟩ ?_
      repeat (first
        | (refine Dn.Chain.step (v := ?_) (a' := ?_) rfl rfl rfl ?_ ?_ ?_
           rotate_left 2
           focus (intro w; go_simp; try with_reducible rfl)
           focus (simp only [Act.put, List.setIfInBounds_toArray, List.set_cons_succ, List.set_cons_zero]; try rfl))
        | (refine Dn.Chain.call (a' := ?_) _ rfl rfl rfl (fun D wx hx hD hp => ?_) ?_ ?_
           rotate_left 1
           focus
             first
             | (obtain ⟨hf, hs⟩ := hx
                have QX := HQ8.out.fr hf (fun i (e : w.heap.size + 1 = w.heap.size) => by omega)
                have x0 : wx.cell? ⟨w.heap.size + 1, 0, none⟩ = some (.int .i64 p.fr) := QX.cell (i := 0) rfl
                have x1 : wx.cell? ⟨w.heap.size + 1, 1, none⟩ = some (.int .i64 p.to_) := QX.cell (i := 1) rfl
                have x2 : wx.cell? ⟨w.heap.size + 1, 2, none⟩ = some (.int .i64 (min (p.lv + 1) 9)) := QX.cell (i := 2) rfl
                have x3 : wx.cell? ⟨w.heap.size + 1, 3, none⟩ = some (.slice PA p.ms.length pc) := QX.cell (i := 3) rfl
                clear QX
                go_simp
                (repeat' (with_reducible apply And.intro)) <;> first | exact rfl | exact hf | exact hs.same (by decide))
             | (obtain ⟨hf, hs⟩ := hx
                have AX := hs.1 hD
                have y0 : wx.cell? ⟨w.heap.size, 0, none⟩ = some (.int .i64 0) := AX.cell (i := 0) rfl
                have y1 : wx.cell? ⟨w.heap.size, 1, none⟩ = some (.int .i64 0) := AX.cell (i := 1) rfl
                have y2 : wx.cell? ⟨w.heap.size, 2, none⟩ = some (.int .i64 0) := AX.cell (i := 2) rfl
                have y3 : wx.cell? ⟨w.heap.size, 3, none⟩ = some (.slice none 0 0) := AX.cell (i := 3) rfl
                have z0 := AX.free 0
                have z1 := AX.free 1
                have z2 := AX.free 2
                have z3 := AX.free 3
                have HAX := Lib.hid AX
                clear AX
                go_simp
                (repeat' (with_reducible apply And.intro)) <;> first | exact rfl | exact (((hf.setCell (fun _ => rfl) _).setCell (fun _ => rfl) _).setCell (fun _ => rfl) _).setCell (fun _ => rfl) _ | exact Sw.done ((((HAX.out.set 0 _).set 1 _).set 2 _).set 3 _))
           focus (simp only [Act.put, List.setIfInBounds_toArray, List.set_cons_succ, List.set_cons_zero]; try rfl))
        | (refine Dn.Chain.skip (a' := ?_) rfl rfl rfl ?_ ?_
           rotate_left 1
           focus (simp only [Act.put, List.setIfInBounds_toArray, List.set_cons_succ, List.set_cons_zero]; try rfl)))
      refine Dn.Chain.end_ (fun D w9 hDD hx => ?_)
      obtain ⟨hf9, hs9⟩ := hx
      have A9 := hs9.2 (hDD 5 (by decide))
      have N9 := HN8.out.fr_ne HA8.out (by decide) (Nat.le_refl _) hf9
      have HN9 := Lib.hid N9
      have y0 : w9.cell? ⟨w.heap.size, 0, none⟩ = some (.int .i64 p.fr) := A9.cell (i := 0) rfl
      have y1 : w9.cell? ⟨w.heap.size, 1, none⟩ = some (.int .i64 p.to_) := A9.cell (i := 1) rfl
      have y2 : w9.cell? ⟨w.heap.size, 2, none⟩ = some (.int .i64 (min (p.lv + 1) 9)) := A9.cell (i := 2) rfl
      have y3 : w9.cell? ⟨w.heap.size, 3, none⟩ = some (.slice PA p.ms.length pc) := A9.cell (i := 3) rfl
      clear N9 A9 hs9 hf9 hDD
      go_wp2_with fail
      refine bodyPost_ret (v := .tuple #[plV (fin p) (.slice PA p.ms.length pc), .bool (decide (1 < p.ms.length))]) (by simp [results, Try.results22, go_sem, plV, fin, y0, y1, y2, y3]) rfl ?_
      exact ⟨_, rfl, HN9.out⟩
end Go.Proofs.Ytemmgejaoegpfaa
