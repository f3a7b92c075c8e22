/-
  Are rows a table? The program's answer is the document's: of any rows. No condition.
-/
import Derived.Test.YtfimalbdlepfnaaDoorZMrgAG
import Derived.Test.YtfimalbdlepfnaaDoorZLib16
import Derived.Test.YtfimalbdlepfnaaDoorTie
import Derived.Test.YtfimalbdlepfnaaDoorCards

namespace Go.Proofs.YtfimalbdlepfnaaDoor
open Go.RowKit Go.Bar Go.Bar.Leb Go.Bar.Lab Go.Bar.Xor Go.Bar.Mrg Go.ChangeShapes Go.WideShapes Go.ChangeAt

theorem rcs_set {t : List Rv} {k : Nat} {x : Rv} (h : t[k]? = some x) (S : List Sm) (A : Option Addr) (d : Nat) : (rcs t).set (k * 2 + 1) (.slice A S.length d) = rcs (t.set k ⟨x.ls, S, x.la, x.lc, A, d⟩) := by
  induction t generalizing k with
  | nil => simp at h
  | cons y t ih =>
    cases k with
    | zero =>
      obtain rfl : y = x := by simpa using h
      rfl
    | succ k =>
      have ih := ih (k := k) (by simpa using h)
      have e : (k + 1) * 2 + 1 = (k * 2 + 1) + 1 + 1 := by omega
      rw [e]
      show Value.slice y.la y.ls.length y.lc :: Value.slice y.sa y.ss.length y.sc :: (rcs t).set (k * 2 + 1) _ = _
      rw [ih]
      rfl
theorem DTb.setRow {B W0 W w : World} {T Tp : TypeId} {b o c k d : Nat} {t : List Rv} {x : Rv} {S : List Sm} {A : Option Addr} (h : DTb B W0 W w T Tp (.slice (some ⟨b, o, none⟩) t.length c) t) (hx : t[k]? = some x) (hs : NBuf W0 w 31 2 (.slice A S.length d) S.length (smc S)) (h1 : Tp ≠ T) (h2 : 31 ≠ T) :
    DTb B W0 W (w.setCell ⟨b, o + (k * 2 + 1), none⟩ (.slice A S.length d)) T Tp (.slice (some ⟨b, o, none⟩) t.length c) (t.set k ⟨x.ls, S, x.la, x.lc, A, d⟩) := by
  have hlt : k < t.length := (List.getElem?_eq_some_iff.1 hx).1
  have hst := h.n.buf.storeN (j := k * 2 + 1) (by omega) (.slice A S.length d)
  rw [rcs_set hx] at hst
  have hbW : W.heap.size ≤ b := h.n.new b rfl
  have hb : Below W.heap.size W (w.setCell ⟨b, o + (k * 2 + 1), none⟩ (.slice A S.length d)) := h.n.below.setCell (p := ⟨b, _, none⟩) hbW _
  have hb0 := below_trans h.b hb
  have hk : Ke (fun U => U = T) w (w.setCell ⟨b, o + (k * 2 + 1), none⟩ (.slice A S.length d)) := Ke.of_buf (Ts := fun U => U = T) h.n.buf (by omega) rfl _ _
  refine ⟨⟨by rw [List.length_set]; exact hst, hb, h.n.new⟩, h.b, fun y hy => ?_⟩
  rcases List.mem_or_eq_of_mem_set hy with hy | rfl
  · exact (h.d y hy).ke hk hb0 h1 h2
  · exact ⟨((h.d x (List.mem_of_getElem? hx)).ke hk hb0 h1 h2).1, .inr (nbuf_ke hs hk hb0 h2)⟩
/-- the rows, one of them longer -/
def FinMg (W : World) (b o n c : Nat) (t : List Rv) (k : Nat) (x : Rv) (S : List Sm) (_vs : Nat → Value) (w' : World) : Prop := ∃ A d, DTb W W W w' 47 84 (.slice (some ⟨b, o, none⟩) n c) (t.set k ⟨x.ls, S, x.la, x.lc, A, d⟩)
theorem FinMg.of {W wr wx : World} {b o n c k d : Nat} {t : List Rv} {x : Rv} {S : List Sm} {A : Option Addr} (h : DTb W W W wr 47 84 (.slice (some ⟨b, o, none⟩) n c) t) (hn : t.length = n) (hx : t[k]? = some x) (hw : Below wr.heap.size wr wx) (f : FBuf wr wx 31 2 (.slice A S.length d) S.length (smc S)) (vs : Nat → Value) :
    FinMg W b o n c t k x S vs (wx.setCell ⟨b, o + (k * 2 + 1), none⟩ (.slice A S.length d)) := by
  subst hn
  exact ⟨A, d, (h.below hw).setRow hx ⟨f.buf, below_trans h.n.below hw, fun q hq => Nat.le_trans h.n.below.size (f.new q hq)⟩ (by decide) (by decide)⟩
/-- the rows, the first one behind the others -/
theorem DTb.turn {B W0 W wr w2 : World} {T Tp : TypeId} {v v2 : Value} {x : Rv} {t : List Rv} (h : DTb B W0 W wr T Tp v (x :: t)) (hw : Below wr.heap.size wr w2) (f : FBuf wr w2 T 2 v2 (t.length + 1) (rcs t ++ encR x)) : DTb B W0 W w2 T Tp v2 (t ++ [x]) := by
  refine ⟨?_, h.b, fun y hy => ?_⟩
  · have e : rcs (t ++ [x]) = rcs t ++ encR x := by rw [rcs_app]; exact congrArg _ (List.append_nil _)
    rw [List.length_append, e]
    exact ⟨f.buf, below_trans h.n.below hw, fun q hq => Nat.le_trans h.n.below.size (f.new q hq)⟩
  · refine (h.d y ?_).below hw
    rcases List.mem_append.1 hy with hy | hy
    · exact List.mem_cons_of_mem _ hy
    · obtain rfl := List.mem_singleton.1 hy
      exact List.mem_cons_self ..
def FinTn (wb : World) (n : Nat) (t : List Rv) (x : Rv) (vs : Nat → Value) (w' : World) : Prop := Below wb.heap.size wb w' ∧ FBuf wb w' 47 2 (vs 8) n (rcs t ++ encR x)

set_option maxHeartbeats 16000000 in
set_option maxRecDepth 10000 in
theorem mergeGood_walk0 (v : Value) (l : List On3) (tn : Bool) (W : World) (h : O3Arg W v l) (_ : True) :
    Calls Tryd.prog 6 #[v, .bool tn] W (RetBelow W (.bool true)) := by
  have HT := Lib.hid (table_any v l W h.1)
  have HA := Lib.hid h.1
  obtain ⟨A, c, rfl, hlc, hcm⟩ := h.1.shape
  unfold maxLen at hcm
  have hsz : ∀ t : List Rv, t.map plR = tab3 l → Szd t 40 40 := fun t ht => szd_tab ht
  obtain ⟨R, hR⟩ : ∃ R, R = tab3 l := ⟨_, rfl⟩
  rw [← hR] at HT hsz
  have HSZ := Lib.hid hsz
  clear h hR hsz
  go_enter Tryd.func6, Tryd.ntmps6
  go_wp2_with fail
  refine HT.out.mono ?_
  rintro e w1 ⟨v1, u1, t1, s1, rfl, d1, e1, m1, n1⟩
  have E1 := Lib.hid e1
  have Z1 := Lib.hid (HSZ.out _ n1)
  obtain ⟨A1, c1, rfl, hc1⟩ := e1.n.buf.shape
  have hs1 : s1.length ≤ 40 := Z1.out.1
  clear d1 e1 m1 n1 HT
  obtain ⟨B, hB⟩ : ∃ B, B = (tn && decide (1 < s1.length)) := ⟨_, rfl⟩
  go_upto_region 2 with fail
  go_cut [18] (fun s wx => s = .bool B ∧ w1 = wx)
  case first =>
    rcases tn with _ | _
    · have hf : B = false := hB
      subst hf
      clear hB
      go_wp2_with fail
      go_meet
      case rel => exact ⟨rfl, rfl⟩
    · by_cases h2 : 1 < s1.length
      · have hf : B = true := by rw [hB, decide_eq_true h2]; rfl
        subst hf
        have hd : decide ((1 : Int) < (s1.length : Int)) = true := decide_eq_true (by omega)
        clear hB
        go_wp2_with fail
        go_meet
        case rel => exact ⟨rfl, rfl⟩
      · have hf : B = false := by rw [hB, decide_eq_false h2]; rfl
        subst hf
        have hd : decide ((1 : Int) < (s1.length : Int)) = false := decide_eq_false (by omega)
        clear hB
        go_wp2_with fail
        go_meet
        case rel => exact ⟨rfl, rfl⟩
  case rest =>
    obtain ⟨rfl, rfl⟩ := hcut
    have hBl : B = true → 1 < s1.length := fun h => by
      rw [hB] at h
      exact of_decide_eq_true (by rw [Bool.and_eq_true] at h; exact h.2)
    clear hB
    go_upto_if 18 with fail
    go_cut [6] (fun s wx => ∃ O A d, s = .slice A O.length d ∧ DTb W W W wx 47 84 (.slice A O.length d) O ∧ Szd O 40 40)
    case first =>
      rcases B with _ | _
      · go_wp2_with fail
        go_meet
        case rel => exact ⟨s1, A1, c1, rfl, E1.out, Z1.out⟩
      · have hl1 := hBl rfl
        rcases s1 with _ | ⟨p, s1⟩
        · simp at hl1
        · obtain ⟨m, hm⟩ : ∃ m, m = s1.length := ⟨_, rfl⟩
          have hle : (p :: s1).length = m + 1 := by rw [hm]; rfl
          rw [hle] at hs1 hc1 hl1 E1 ⊢
          have hT := (E1.out.rtb (Below.refl _ _)).tb
          obtain ⟨b, o, rfl, x0, x1, _⟩ := hT.at_ (i := 0) rfl
          obtain ⟨i0, hi0, _, hi2, _⟩ := rrow_ty.info
          have hsl := fun w => (show (Instr.slice 36 (.slice (some ⟨b, o, none⟩) (m + 1) c1) (some (.int .i64 1)) none none).run Tryd.prog w = .ok (.slice (dropA (some ⟨b, o, none⟩) c1 1 2) (m + 1 - 1) (c1 - 1)) w from run_slice_f (P := Tryd.prog) (a := some ⟨b, o, none⟩) (n := m + 1) (c := c1) (t := 36) Tryd.underlying36 hi0 hi2 1 (by omega) (by omega) w)
          have hsrc := fun (w' : World) (hb : Below w1.heap.size w1 w') => (show SlAt w' 2 (.slice (dropA (some ⟨b, o, none⟩) c1 1 2) m (c1 - 1)) m (rcs s1) by
            have h1 := hT.1.below hb
            rw [hle] at h1
            have h2 := SlAt.part h1 1 (m + 1) (by omega) (Nat.le_refl _)
            rw [Nat.add_sub_cancel] at h2
            have e : ((rcs (p :: s1)).drop (1 * 2)).take (m * 2) = rcs s1 := by
              show (rcs s1).take (m * 2) = _
              exact List.take_of_length_le (by rw [rcs_len, ← hm]; exact Nat.le_refl _)
            rw [e] at h2
            exact h2)
          have hcl := fun (w' : World) (hb : Below w1.heap.size w1 w') => (show w'.cell? ⟨b, o, none⟩ = some (.slice p.la p.ls.length p.lc) ∧ w'.cell? ⟨b, o + 1, none⟩ = some (.slice p.sa p.ss.length p.sc) by
            obtain ⟨g0, g1, _⟩ := (hT.below hb).at2 (i := 0) rfl
            rw [Nat.zero_mul, Nat.add_zero] at g0 g1
            exact ⟨g0, g1⟩)
          obtain ⟨D, hD⟩ : ∃ D, D = dropA (some ⟨b, o, none⟩) c1 1 2 := ⟨_, rfl⟩
          rw [← hD] at hsl hsrc
          rw [Nat.add_sub_cancel] at hsl
          have HSRC := Lib.hid hsrc
          have HCL := Lib.hid hcl
          have HM := Lib.hid hm
          have HTN := Lib.hid (fun (w2 : World) (v2 : Value) (hw : Below w1.heap.size w1 w2) (f : FBuf w1 w2 47 2 v2 (m + 1) (rcs s1 ++ encR p)) => (show DTb W W W w2 47 84 v2 (s1 ++ [p]) from DTb.turn E1.out hw (by rw [← hm]; exact f)))
          have HZ2 := Lib.hid (show Szd (s1 ++ [p]) 40 40 from ⟨by have := Z1.out.1; simp at this ⊢; omega, fun y hy => Z1.out.2 y (by
            rcases List.mem_append.1 hy with hy | hy
            · exact List.mem_cons_of_mem _ hy
            · obtain rfl := List.mem_singleton.1 hy
              exact List.mem_cons_self ..)⟩)
          obtain ⟨d1, hd1⟩ : ∃ d1, d1 = c1 - 1 := ⟨_, rfl⟩
          rw [← hd1] at hsl HSRC
          clear hsrc hcl hm hD hi0 hi2 x0 x1 hT hle hd1
          go_upto_region 3 with fail
          have hstT : ∀ k v w w', Below w.heap.size w w' → Dv.factOf ([(0, ((fun v => ∃ g, v = .slice (some ⟨g, 0, none⟩) 0 0), (fun v w' => FBuf w1 w' 47 2 v 0 []), 3)), (3, ((isSl m), (fun v w' => FBuf w1 w' 47 2 v m (rcs s1)), 8)), (6, ((fun v => v = (.agg #[.slice p.la p.ls.length p.lc, .slice p.sa p.ss.length p.sc])), noFact, 6)), (7, ((fun v => ∃ g, v = .slice (some ⟨g, 0, none⟩) 1 1), (fun v w' => FBuf w1 w' 47 2 v 1 (encR p)), 8)), (8, ((isSl (m + 1)), noFact, 8))] : List (Nat × Dv.Kp)) k v w → Dv.factOf ([(0, ((fun v => ∃ g, v = .slice (some ⟨g, 0, none⟩) 0 0), (fun v w' => FBuf w1 w' 47 2 v 0 []), 3)), (3, ((isSl m), (fun v w' => FBuf w1 w' 47 2 v m (rcs s1)), 8)), (6, ((fun v => v = (.agg #[.slice p.la p.ls.length p.lc, .slice p.sa p.ss.length p.sc])), noFact, 6)), (7, ((fun v => ∃ g, v = .slice (some ⟨g, 0, none⟩) 1 1), (fun v w' => FBuf w1 w' 47 2 v 1 (encR p)), 8)), (8, ((isSl (m + 1)), noFact, 8))] : List (Nat × Dv.Kp)) k v w' := Dv.fact_st (by
            simp only [List.forall_mem_cons, List.not_mem_nil, false_imp_iff, implies_true, and_true]
            refine ⟨?_, ?_, ?_, ?_, ?_⟩
            · exact fun _ _ _ hb h => h.below hb
            · exact fun _ _ _ hb h => h.below hb
            · exact fun _ _ _ _ _ => trivial
            · exact fun _ _ _ hb h => h.below hb
            · exact fun _ _ _ _ _ => trivial)
          have htrT : ∀ x ∈ ([(0, ((fun v => ∃ g, v = .slice (some ⟨g, 0, none⟩) 0 0), (fun v w' => FBuf w1 w' 47 2 v 0 []), 3)), (3, ((isSl m), (fun v w' => FBuf w1 w' 47 2 v m (rcs s1)), 8)), (6, ((fun v => v = (.agg #[.slice p.la p.ls.length p.lc, .slice p.sa p.ss.length p.sc])), noFact, 6)), (7, ((fun v => ∃ g, v = .slice (some ⟨g, 0, none⟩) 1 1), (fun v w' => FBuf w1 w' 47 2 v 1 (encR p)), 8)), (8, ((isSl (m + 1)), noFact, 8))] : List (Nat × Dv.Kp)), (([(0, ((fun v => ∃ g, v = .slice (some ⟨g, 0, none⟩) 0 0), (fun v w' => FBuf w1 w' 47 2 v 0 []), 3)), (3, ((isSl m), (fun v w' => FBuf w1 w' 47 2 v m (rcs s1)), 8)), (6, ((fun v => v = (.agg #[.slice p.la p.ls.length p.lc, .slice p.sa p.ss.length p.sc])), noFact, 6)), (7, ((fun v => ∃ g, v = .slice (some ⟨g, 0, none⟩) 1 1), (fun v w' => FBuf w1 w' 47 2 v 1 (encR p)), 8)), (8, ((isSl (m + 1)), noFact, 8))] : List (Nat × Dv.Kp)).lookup x.2.2.2).isSome = true := by
            simp only [List.forall_mem_cons, List.not_mem_nil, false_imp_iff, implies_true, and_true]
            exact ⟨by kernel_rfl, by kernel_rfl, by kernel_rfl, by kernel_rfl, by kernel_rfl⟩
          refine Dv.wp_region_two (L := ([(0, ((fun v => ∃ g, v = .slice (some ⟨g, 0, none⟩) 0 0), (fun v w' => FBuf w1 w' 47 2 v 0 []), 3)), (3, ((isSl m), (fun v w' => FBuf w1 w' 47 2 v m (rcs s1)), 8)), (6, ((fun v => v = (.agg #[.slice p.la p.ls.length p.lc, .slice p.sa p.ss.length p.sc])), noFact, 6)), (7, ((fun v => ∃ g, v = .slice (some ⟨g, 0, none⟩) 1 1), (fun v w' => FBuf w1 w' 47 2 v 1 (encR p)), 8)), (8, ((isSl (m + 1)), noFact, 8))] : List (Nat × Dv.Kp))) (m := 8) (Fin := (FinTn w1 (m + 1) s1 p)) (by kernel_rfl) 75 (by kernel_rfl) rfl (by kernel_rfl) ?_ ?_ ?_
          · simp only [List.forall_mem_cons, List.not_mem_nil, false_imp_iff, implies_true, and_true]
            exact ⟨⟨_, 0, rfl⟩, isSl_some _, ⟨_, rfl⟩, ⟨_, 0, rfl⟩, isSl_some _⟩
          · exact (fun vs vs' w' h hf => by unfold FinTn at hf ⊢; rw [← h 8 (by kernel_rfl) (by decide)]; exact hf)
          repeat (first
            | (refine Dv.Chain.step (v := ?_) (a' := ?_) rfl rfl rfl ?_ ?_ ?_
               rotate_left 2
               focus (intro w; go_simp; try with_reducible rfl)
               focus (simp only [Act.put, List.setIfInBounds_toArray, List.set_cons_succ, List.set_cons_zero]; try rfl))
            | (refine Dv.Chain.skip' (a' := ?_) rfl rfl rfl ?_ ?_
               rotate_left 1
               focus (simp only [Act.put, List.setIfInBounds_toArray, List.set_cons_succ, List.set_cons_zero]; try rfl)))
          refine Dv.XT.make _ _ _ rfl (by decide) hstT rfl rfl (fun wx hw hF => ?_) htrT (fun v0 hv0 a' ha => ?_)
          focus
            go_simp
            exact ⟨ba1 _ _, Buf.lit wx 47 2 0 [] (by simp) (Nat.zero_le _), fun k hk => by simp [Value.ownBlock] at hk; subst hk; exact hw.size⟩
          obtain ⟨g0, rfl⟩ := hv0
          simp only [Act.put, List.setIfInBounds_toArray, List.set_cons_succ, List.set_cons_zero] at ha
          subst ha
          repeat (first
            | (refine Dv.Chain.step (v := ?_) (a' := ?_) rfl rfl rfl ?_ ?_ ?_
               rotate_left 2
               focus (intro w; go_simp; try with_reducible rfl)
               focus (simp only [Act.put, List.setIfInBounds_toArray, List.set_cons_succ, List.set_cons_zero]; try rfl))
            | (refine Dv.Chain.skip' (a' := ?_) rfl rfl rfl ?_ ?_
               rotate_left 1
               focus (simp only [Act.put, List.setIfInBounds_toArray, List.set_cons_succ, List.set_cons_zero]; try rfl)))
          refine Dv.XT.make _ _ _ rfl (by decide) hstT rfl rfl (fun wx hw hF => ?_) htrT (fun v3 hv3 a' ha => ?_)
          focus
            have f0 : (fun v w' => FBuf w1 w' 47 2 v 0 [] : Value → World → Prop) _ wx := hF 0 _ (by kernel_rfl) rfl (by kernel_rfl)
            refine oper_append_buf (.tmp 19) (.tmp 21) 36 rfl rrow_ty rfl f0.buf rfl (SlAt.src (HSRC.out _ hw) (by decide) Tryd.underlying36 (rcs_oneT s1)) (by simp only [maxLen]; omega) (by omega) ?_
            intro v' w' hb ha hg
            rw [Nat.zero_add, List.nil_append] at hb
            have hbl := Ap.below_full ha
            exact ⟨v', rfl, hb.shape, hbl, f0.grown hw.size hb hg⟩
          obtain ⟨A3, c3, rfl, hc3⟩ := hv3
          simp only [Act.put, List.setIfInBounds_toArray, List.set_cons_succ, List.set_cons_zero] at ha
          subst ha
          repeat (first
            | (refine Dv.Chain.step (v := ?_) (a' := ?_) rfl rfl rfl ?_ ?_ ?_
               rotate_left 2
               focus (intro w; go_simp; try with_reducible rfl)
               focus (simp only [Act.put, List.setIfInBounds_toArray, List.set_cons_succ, List.set_cons_zero]; try rfl))
            | (refine Dv.Chain.skip' (a' := ?_) rfl rfl rfl ?_ ?_
               rotate_left 1
               focus (simp only [Act.put, List.setIfInBounds_toArray, List.set_cons_succ, List.set_cons_zero]; try rfl)))
          refine Dv.XT.call (a' := ?_) _ _ rfl (by decide) hstT rfl rfl (fun wx hw hF => ?_) htrT ?_ ?_
          rotate_left 1
          focus
            obtain ⟨g0, g1⟩ := HCL.out _ hw
            go_simp; first | exact ⟨rfl, Below.refl _ _⟩ | exact Below.refl _ _
          focus (simp only [Act.put, List.setIfInBounds_toArray, List.set_cons_succ, List.set_cons_zero]; try rfl)
          repeat (first
            | (refine Dv.Chain.step (v := ?_) (a' := ?_) rfl rfl rfl ?_ ?_ ?_
               rotate_left 2
               focus (intro w; go_simp; try with_reducible rfl)
               focus (simp only [Act.put, List.setIfInBounds_toArray, List.set_cons_succ, List.set_cons_zero]; try rfl))
            | (refine Dv.Chain.skip' (a' := ?_) rfl rfl rfl ?_ ?_
               rotate_left 1
               focus (simp only [Act.put, List.setIfInBounds_toArray, List.set_cons_succ, List.set_cons_zero]; try rfl)))
          refine Dv.XT.make _ _ _ rfl (by decide) hstT rfl rfl (fun wx hw hF => ?_) htrT (fun v7 hv7 a' ha => ?_)
          focus
            go_simp
            exact ⟨ba1 _ _, Buf.lit wx 47 2 1 [.slice p.la p.ls.length p.lc, .slice p.sa p.ss.length p.sc] rfl (by decide), fun k hk => by simp [Value.ownBlock] at hk; subst hk; exact hw.size⟩
          obtain ⟨g7, rfl⟩ := hv7
          simp only [Act.put, List.setIfInBounds_toArray, List.set_cons_succ, List.set_cons_zero] at ha
          subst ha
          repeat (first
            | (refine Dv.Chain.step (v := ?_) (a' := ?_) rfl rfl rfl ?_ ?_ ?_
               rotate_left 2
               focus (intro w; go_simp; try with_reducible rfl)
               focus (simp only [Act.put, List.setIfInBounds_toArray, List.set_cons_succ, List.set_cons_zero]; try rfl))
            | (refine Dv.Chain.skip' (a' := ?_) rfl rfl rfl ?_ ?_
               rotate_left 1
               focus (simp only [Act.put, List.setIfInBounds_toArray, List.set_cons_succ, List.set_cons_zero]; try rfl)))
          refine Dv.XT.last _ _ _ rfl rfl (by kernel_rfl) rfl rfl (fun vs wx hw hF => ?_) (fun v8 hv8 a' ha => ?_)
          focus
            have f3 : (fun v w' => FBuf w1 w' 47 2 v m (rcs s1) : Value → World → Prop) _ wx := (hF 3 _ (by kernel_rfl) rfl).1 (by kernel_rfl)
            have q3 := (hF 3 _ (by kernel_rfl) rfl).2
            have f7 : (fun v w' => FBuf w1 w' 47 2 v 1 (encR p) : Value → World → Prop) _ wx := (hF 7 _ (by kernel_rfl) rfl).1 (by kernel_rfl)
            have q7 := (hF 7 _ (by kernel_rfl) rfl).2
            refine oper_append_buf (.tmp 22) (.tmp 26) 36 rfl rrow_ty rfl f3.buf rfl (f7.buf.src Tryd.underlying36 (by simp [encR, Value.oneCell'])) (by simp only [maxLen]; omega) (by omega) ?_
            intro v' w' hb ha hg
            refine ⟨v', rfl, hb.shape, hw.trans (ha.below hw.size f3.new), ?_⟩
            rw [Dv.updV_self]
            exact f3.grown hw.size hb hg
          obtain ⟨A8, c8, rfl, hc8⟩ := hv8
          simp only [Act.put, List.setIfInBounds_toArray, List.set_cons_succ, List.set_cons_zero] at ha
          subst ha
          repeat (first
            | (refine Dv.Chain.step (v := ?_) (a' := ?_) rfl rfl rfl ?_ ?_ ?_
               rotate_left 2
               focus (intro w; go_simp; try with_reducible rfl)
               focus (simp only [Act.put, List.setIfInBounds_toArray, List.set_cons_succ, List.set_cons_zero]; try rfl))
            | (refine Dv.Chain.skip' (a' := ?_) rfl rfl rfl ?_ ?_
               rotate_left 1
               focus (simp only [Act.put, List.setIfInBounds_toArray, List.set_cons_succ, List.set_cons_zero]; try rfl)))
          refine Dv.XT.end_ (by decide) (fun vs w10 hv hfin => ?_)
          obtain ⟨hf1, hf2⟩ := hfin
          rw [hv 8 _ rfl] at hf2
          have HD := Lib.hid (HTN.out _ _ hf1 hf2)
          have hl2 : (s1 ++ [p]).length = m + 1 := by rw [HM.out]; simp
          have HL2 := Lib.hid hl2
          clear hf1 hf2 hv hl2 HSRC HCL hsl
          go_wp2_with fail
          go_meet
          case rel => exact ⟨s1 ++ [p], A8, c8, by rw [HL2.out], by rw [HL2.out]; exact HD.out, HZ2.out⟩
    case rest =>
      obtain ⟨O, tA, tc, rfl, HO, HZ⟩ := hcut
      obtain ⟨n, hn⟩ : ∃ n, n = O.length := ⟨_, rfl⟩
      have hn40 : n ≤ 40 := by rw [hn]; exact HZ.1
      have H0 := Lib.hid (show O.length = n from hn.symm)
      have HO0 := Lib.hid HO
      have HZ0 := Lib.hid HZ
      rw [← hn] at HO0 ⊢
      clear HO HZ hn E1 Z1 hBl HSZ
      go_wp2_with fail
      go_loopw [7] (fun i wr => ∃ (k : Nat) (O2 : List Rv), k ≤ l.length ∧ k ≤ n ∧ i = .int .i64 k ∧ Hid (O2.length = n) ∧ Hid (DTb W W W wr 47 84 (.slice tA n tc) O2) ∧ Hid (Szd O2 40 (40 + k))) (fun i _ => l.length - (intOf i).toNat)
      case atStart => exact ⟨0, O, Nat.zero_le _, Nat.zero_le _, rfl, H0, HO0, HZ0⟩
      case round =>
        obtain ⟨k, O2, hk, hk2, rfl, HL, HD, HZ⟩ := hrel
        have hbw := HD.out.n.below
        clear H0 HO0 HZ0
        by_cases hgo : k < l.length ∧ k < n
        · obtain ⟨hg1, hg2⟩ := hgo
          obtain ⟨p, hp⟩ : ∃ p, l[k]? = some p := ⟨_, List.getElem?_eq_getElem hg1⟩
          obtain ⟨y, hy⟩ : ∃ y, O2[k]? = some y := ⟨_, List.getElem?_eq_getElem (by have := HL.out; omega)⟩
          obtain ⟨yL, S, ya, yc, sa, sc⟩ := y
          have hT := fun (w' : World) (hb : Below wr.heap.size wr w') => ((HD.out.below hb).rtb (Below.refl _ _)).tb
          obtain ⟨b, o, rfl, _, y1, _⟩ := (hT _ (Below.refl _ _)).at_ hy
          obtain ⟨ub, uo, rfl, p0, p1, p2⟩ := (HA.out.below hbw).at_ hp
          have hsl : S.length ≤ 80 := by have h1 : S.length ≤ 40 + k := (HZ.out.2 _ (List.mem_of_getElem? hy)).2
                                         omega
          have HPC := Lib.hid (fun (w' : World) (hb : Below W.heap.size W w') => (show w'.cell? ⟨ub, uo + k * 3 + 1, none⟩ = some (.int .i64 p.t) by
            obtain ⟨b', o', he, _, h1, h2⟩ := (HA.out.below hb).at_ hp
            injection he with he
            injection he with e1 e2 _
            subst e1; subst e2
            exact h1))
          have HYC := Lib.hid (fun (w' : World) (hb : Below wr.heap.size wr w') => (show w'.cell? ⟨b, o + k * 2 + 1, none⟩ = some (.slice sa S.length sc) ∧ SlAt w' 2 (.slice sa S.length sc) S.length (smc S) from ⟨((hT w' hb).at2 hy).2.1, ((hT w' hb).at2 hy).2.2.2⟩))
          have hbuf := HD.out.n.buf
          rw [HL.out] at hbuf
          have HBU := Lib.hid hbuf
          have HFR := Lib.hid (fun (w' : World) (hb : Below wr.heap.size wr w') => (HBU.out.below hb).cellN (j := k * 2 + 1) (by omega))
          clear hbuf
          have HFM := Lib.hid (fun (wx : World) (A : Option Addr) (d : Nat) (hw : Below wr.heap.size wr wx) (f : FBuf wr wx 31 2 (.slice A (S ++ [(p.t, 0)]).length d) (S ++ [(p.t, 0)]).length (smc (S ++ [(p.t, 0)]))) (vs : Nat → Value) => FinMg.of (x := ⟨yL, S, ya, yc, sa, sc⟩) HD.out HL.out hy hw f vs)
          have HYZ := Lib.hid (fun (A : Option Addr) (d : Nat) => (show Szd (O2.set k ⟨yL, S ++ [(p.t, 0)], ya, yc, A, d⟩) 40 (40 + (k + 1)) from ⟨by rw [List.length_set]; exact HZ.out.1, fun z hz => by
            rcases List.mem_or_eq_of_mem_set hz with hz | rfl
            · have := HZ.out.2 z hz
              exact ⟨this.1, by omega⟩
            · have h1 := HZ.out.2 _ (List.mem_of_getElem? hy)
              refine ⟨h1.1, ?_⟩
              have h2 : S.length ≤ 40 + k := h1.2
              show (S ++ [(p.t, 0)]).length ≤ _
              simp; omega⟩))
          have hkl : (k : Int) < (l.length : Int) := by omega
          have hkn : (k : Int) < (n : Int) := by omega
          have hk0 : (0 : Int) ≤ (k : Int) := by omega
          have hms : (p.v : Int).tmod 7 = ((p.v % 7 : Nat) : Int) := by rw [Int.tmod_eq_emod_of_nonneg (by omega)]; rfl
          clear hp hy hT p0 p1 y1
          by_cases hv : p.v % 7 = 0
          · have hd : ((p.v : Int) % 7 == 0) = true := by rw [beq_iff_eq]; omega
            clear hv hms
            go_upto_region 8 with fail
            have hstT : ∀ k v w w', Below w.heap.size w w' → Dv.factOf ([(2, ((fun v => ∃ g, v = .slice (some ⟨g, 0, none⟩) 0 0), (fun v w' => FBuf wr w' 31 2 v 0 []), 8)), (7, ((fun v => v = (.slice sa S.length sc)), noFact, 7)), (8, ((isSl S.length), (fun v w' => FBuf wr w' 31 2 v S.length (smc S)), 16)), (13, ((fun v => v = (.int .i64 p.t)), noFact, 13)), (15, ((fun v => ∃ g, v = .slice (some ⟨g, 0, none⟩) 1 1), (fun v w' => FBuf wr w' 31 2 v 1 (smc [(p.t, 0)])), 16)), (16, ((isSl (S.length + 1)), (fun v w' => FBuf wr w' 31 2 v (S.length + 1) (smc S ++ smc [(p.t, 0)])), 19)), (19, ((fun _ => True), noFact, 19))] : List (Nat × Dv.Kp)) k v w → Dv.factOf ([(2, ((fun v => ∃ g, v = .slice (some ⟨g, 0, none⟩) 0 0), (fun v w' => FBuf wr w' 31 2 v 0 []), 8)), (7, ((fun v => v = (.slice sa S.length sc)), noFact, 7)), (8, ((isSl S.length), (fun v w' => FBuf wr w' 31 2 v S.length (smc S)), 16)), (13, ((fun v => v = (.int .i64 p.t)), noFact, 13)), (15, ((fun v => ∃ g, v = .slice (some ⟨g, 0, none⟩) 1 1), (fun v w' => FBuf wr w' 31 2 v 1 (smc [(p.t, 0)])), 16)), (16, ((isSl (S.length + 1)), (fun v w' => FBuf wr w' 31 2 v (S.length + 1) (smc S ++ smc [(p.t, 0)])), 19)), (19, ((fun _ => True), noFact, 19))] : List (Nat × Dv.Kp)) k v w' := Dv.fact_st (by
              simp only [List.forall_mem_cons, List.not_mem_nil, false_imp_iff, implies_true, and_true]
              refine ⟨?_, ?_, ?_, ?_, ?_, ?_, ?_⟩
              · exact fun _ _ _ hb h => h.below hb
              · exact fun _ _ _ _ _ => trivial
              · exact fun _ _ _ hb h => h.below hb
              · exact fun _ _ _ _ _ => trivial
              · exact fun _ _ _ hb h => h.below hb
              · exact fun _ _ _ hb h => h.below hb
              · exact fun _ _ _ _ _ => trivial)
            have htrT : ∀ x ∈ ([(2, ((fun v => ∃ g, v = .slice (some ⟨g, 0, none⟩) 0 0), (fun v w' => FBuf wr w' 31 2 v 0 []), 8)), (7, ((fun v => v = (.slice sa S.length sc)), noFact, 7)), (8, ((isSl S.length), (fun v w' => FBuf wr w' 31 2 v S.length (smc S)), 16)), (13, ((fun v => v = (.int .i64 p.t)), noFact, 13)), (15, ((fun v => ∃ g, v = .slice (some ⟨g, 0, none⟩) 1 1), (fun v w' => FBuf wr w' 31 2 v 1 (smc [(p.t, 0)])), 16)), (16, ((isSl (S.length + 1)), (fun v w' => FBuf wr w' 31 2 v (S.length + 1) (smc S ++ smc [(p.t, 0)])), 19)), (19, ((fun _ => True), noFact, 19))] : List (Nat × Dv.Kp)), (([(2, ((fun v => ∃ g, v = .slice (some ⟨g, 0, none⟩) 0 0), (fun v w' => FBuf wr w' 31 2 v 0 []), 8)), (7, ((fun v => v = (.slice sa S.length sc)), noFact, 7)), (8, ((isSl S.length), (fun v w' => FBuf wr w' 31 2 v S.length (smc S)), 16)), (13, ((fun v => v = (.int .i64 p.t)), noFact, 13)), (15, ((fun v => ∃ g, v = .slice (some ⟨g, 0, none⟩) 1 1), (fun v w' => FBuf wr w' 31 2 v 1 (smc [(p.t, 0)])), 16)), (16, ((isSl (S.length + 1)), (fun v w' => FBuf wr w' 31 2 v (S.length + 1) (smc S ++ smc [(p.t, 0)])), 19)), (19, ((fun _ => True), noFact, 19))] : List (Nat × Dv.Kp)).lookup x.2.2.2).isSome = true := by
              simp only [List.forall_mem_cons, List.not_mem_nil, false_imp_iff, implies_true, and_true]
              exact ⟨by kernel_rfl, by kernel_rfl, by kernel_rfl, by kernel_rfl, by kernel_rfl, by kernel_rfl, by kernel_rfl⟩
            refine Dv.wp_region_two (L := ([(2, ((fun v => ∃ g, v = .slice (some ⟨g, 0, none⟩) 0 0), (fun v w' => FBuf wr w' 31 2 v 0 []), 8)), (7, ((fun v => v = (.slice sa S.length sc)), noFact, 7)), (8, ((isSl S.length), (fun v w' => FBuf wr w' 31 2 v S.length (smc S)), 16)), (13, ((fun v => v = (.int .i64 p.t)), noFact, 13)), (15, ((fun v => ∃ g, v = .slice (some ⟨g, 0, none⟩) 1 1), (fun v w' => FBuf wr w' 31 2 v 1 (smc [(p.t, 0)])), 16)), (16, ((isSl (S.length + 1)), (fun v w' => FBuf wr w' 31 2 v (S.length + 1) (smc S ++ smc [(p.t, 0)])), 19)), (19, ((fun _ => True), noFact, 19))] : List (Nat × Dv.Kp))) (m := 19) (Fin := (FinMg W b o n tc O2 k ⟨yL, S, ya, yc, sa, sc⟩ (S ++ [(p.t, 0)]))) (by kernel_rfl) 75 (by kernel_rfl) rfl (by kernel_rfl) ?_ ?_ ?_
            · simp only [List.forall_mem_cons, List.not_mem_nil, false_imp_iff, implies_true, and_true]
              exact ⟨⟨_, 0, rfl⟩, ⟨_, rfl⟩, isSl_some _, ⟨_, rfl⟩, ⟨_, 0, rfl⟩, isSl_some _, ⟨undef, trivial⟩⟩
            · exact (fun _ _ _ _ h => h)
            repeat (first
              | (refine Dv.Chain.step (v := ?_) (a' := ?_) rfl rfl rfl ?_ ?_ ?_
                 rotate_left 2
                 focus (intro w; go_simp; try with_reducible rfl)
                 focus (simp only [Act.put, List.setIfInBounds_toArray, List.set_cons_succ, List.set_cons_zero]; try rfl))
              | (refine Dv.Chain.skip' (a' := ?_) rfl rfl rfl ?_ ?_
                 rotate_left 1
                 focus (simp only [Act.put, List.setIfInBounds_toArray, List.set_cons_succ, List.set_cons_zero]; try rfl)))
            refine Dv.XT.make _ _ _ rfl (by decide) hstT rfl rfl (fun wx hw hF => ?_) htrT (fun v2 hv2 a' ha => ?_)
            focus
              go_simp
              exact ⟨ba1 _ _, Buf.lit wx 31 2 0 [] (by simp) (Nat.zero_le _), fun k hk => by simp [Value.ownBlock] at hk; subst hk; exact hw.size⟩
            obtain ⟨g2, rfl⟩ := hv2
            simp only [Act.put, List.setIfInBounds_toArray, List.set_cons_succ, List.set_cons_zero] at ha
            subst ha
            repeat (first
              | (refine Dv.Chain.step (v := ?_) (a' := ?_) rfl rfl rfl ?_ ?_ ?_
                 rotate_left 2
                 focus (intro w; go_simp; try with_reducible rfl)
                 focus (simp only [Act.put, List.setIfInBounds_toArray, List.set_cons_succ, List.set_cons_zero]; try rfl))
              | (refine Dv.Chain.skip' (a' := ?_) rfl rfl rfl ?_ ?_
                 rotate_left 1
                 focus (simp only [Act.put, List.setIfInBounds_toArray, List.set_cons_succ, List.set_cons_zero]; try rfl)))
            refine Dv.XT.call (a' := ?_) _ _ rfl (by decide) hstT rfl rfl (fun wx hw hF => ?_) htrT ?_ ?_
            rotate_left 1
            focus
              obtain ⟨g0, _⟩ := HYC.out _ hw
              go_simp; first | exact ⟨rfl, Below.refl _ _⟩ | exact Below.refl _ _
            focus (simp only [Act.put, List.setIfInBounds_toArray, List.set_cons_succ, List.set_cons_zero]; try rfl)
            repeat (first
              | (refine Dv.Chain.step (v := ?_) (a' := ?_) rfl rfl rfl ?_ ?_ ?_
                 rotate_left 2
                 focus (intro w; go_simp; try with_reducible rfl)
                 focus (simp only [Act.put, List.setIfInBounds_toArray, List.set_cons_succ, List.set_cons_zero]; try rfl))
              | (refine Dv.Chain.skip' (a' := ?_) rfl rfl rfl ?_ ?_
                 rotate_left 1
                 focus (simp only [Act.put, List.setIfInBounds_toArray, List.set_cons_succ, List.set_cons_zero]; try rfl)))
            refine Dv.XT.make _ _ _ rfl (by decide) hstT rfl rfl (fun wx hw hF => ?_) htrT (fun v8 hv8 a' ha => ?_)
            focus
              have f2 : (fun v w' => FBuf wr w' 31 2 v 0 [] : Value → World → Prop) _ wx := hF 2 _ (by kernel_rfl) rfl (by kernel_rfl)
              refine oper_append_buf (.tmp 49) (.tmp 54) 24 rfl sm_ty rfl f2.buf rfl (SlAt.src (HYC.out _ hw).2 (by decide) Tryd.underlying24 (smc_one S)) (by simp only [maxLen]; omega) (by omega) ?_
              intro v' w' hb ha hg
              rw [Nat.zero_add, List.nil_append] at hb
              have hbl := Ap.below_full ha
              exact ⟨v', rfl, hb.shape, hbl, f2.grown hw.size hb hg⟩
            obtain ⟨A3, c3, rfl, hc3⟩ := hv8
            simp only [Act.put, List.setIfInBounds_toArray, List.set_cons_succ, List.set_cons_zero] at ha
            subst ha
            repeat (first
              | (refine Dv.Chain.step (v := ?_) (a' := ?_) rfl rfl rfl ?_ ?_ ?_
                 rotate_left 2
                 focus (intro w; go_simp; try with_reducible rfl)
                 focus (simp only [Act.put, List.setIfInBounds_toArray, List.set_cons_succ, List.set_cons_zero]; try rfl))
              | (refine Dv.Chain.skip' (a' := ?_) rfl rfl rfl ?_ ?_
                 rotate_left 1
                 focus (simp only [Act.put, List.setIfInBounds_toArray, List.set_cons_succ, List.set_cons_zero]; try rfl)))
            refine Dv.XT.call (a' := ?_) _ _ rfl (by decide) hstT rfl rfl (fun wx hw hF => ?_) htrT ?_ ?_
            rotate_left 1
            focus
              have g0 := HPC.out _ (below_trans hbw hw)
              go_simp; first | exact ⟨rfl, Below.refl _ _⟩ | exact Below.refl _ _
            focus (simp only [Act.put, List.setIfInBounds_toArray, List.set_cons_succ, List.set_cons_zero]; try rfl)
            repeat (first
              | (refine Dv.Chain.step (v := ?_) (a' := ?_) rfl rfl rfl ?_ ?_ ?_
                 rotate_left 2
                 focus (intro w; go_simp; try with_reducible rfl)
                 focus (simp only [Act.put, List.setIfInBounds_toArray, List.set_cons_succ, List.set_cons_zero]; try rfl))
              | (refine Dv.Chain.skip' (a' := ?_) rfl rfl rfl ?_ ?_
                 rotate_left 1
                 focus (simp only [Act.put, List.setIfInBounds_toArray, List.set_cons_succ, List.set_cons_zero]; try rfl)))
            refine Dv.XT.make _ _ _ rfl (by decide) hstT rfl rfl (fun wx hw hF => ?_) htrT (fun v15 hv15 a' ha => ?_)
            focus
              go_simp
              exact ⟨ba1 _ _, Buf.lit wx 31 2 1 [.int .i64 p.t, .int .u64 0] rfl (by decide), fun k hk => by simp [Value.ownBlock] at hk; subst hk; exact hw.size⟩
            obtain ⟨g7, rfl⟩ := hv15
            simp only [Act.put, List.setIfInBounds_toArray, List.set_cons_succ, List.set_cons_zero] at ha
            subst ha
            repeat (first
              | (refine Dv.Chain.step (v := ?_) (a' := ?_) rfl rfl rfl ?_ ?_ ?_
                 rotate_left 2
                 focus (intro w; go_simp; try with_reducible rfl)
                 focus (simp only [Act.put, List.setIfInBounds_toArray, List.set_cons_succ, List.set_cons_zero]; try rfl))
              | (refine Dv.Chain.skip' (a' := ?_) rfl rfl rfl ?_ ?_
                 rotate_left 1
                 focus (simp only [Act.put, List.setIfInBounds_toArray, List.set_cons_succ, List.set_cons_zero]; try rfl)))
            refine Dv.XT.write _ _ _ rfl (by decide) rfl rfl (by kernel_rfl) (fun wx hw hF => ?_) htrT (fun v16 hv16 a' ha => ?_)
            focus
              have f8 : (fun v w' => FBuf wr w' 31 2 v S.length (smc S) : Value → World → Prop) _ wx := hF 8 _ (by kernel_rfl) rfl (by kernel_rfl)
              have f15 : (fun v w' => FBuf wr w' 31 2 v 1 (smc [(p.t, 0)]) : Value → World → Prop) _ wx := hF 15 _ (by kernel_rfl) rfl (by kernel_rfl)
              refine oper_append_buf (.tmp 55) (.tmp 62) 24 rfl sm_ty rfl f8.buf rfl (f15.buf.src Tryd.underlying24 (smc_one _)) (by simp only [maxLen]; omega) (by omega) ?_
              intro v' w' hb ha hg
              exact ⟨v', rfl, hb.shape, hw.trans (ha.below hw.size f8.new), f8.grown hw.size hb hg⟩
            obtain ⟨A6, c6, rfl, hc6⟩ := hv16
            simp only [Act.put, List.setIfInBounds_toArray, List.set_cons_succ, List.set_cons_zero] at ha
            subst ha
            repeat (first
              | (refine Dv.Chain.step (v := ?_) (a' := ?_) rfl rfl rfl ?_ ?_ ?_
                 rotate_left 2
                 focus (intro w; go_simp; try with_reducible rfl)
                 focus (simp only [Act.put, List.setIfInBounds_toArray, List.set_cons_succ, List.set_cons_zero]; try rfl))
              | (refine Dv.Chain.skip' (a' := ?_) rfl rfl rfl ?_ ?_
                 rotate_left 1
                 focus (simp only [Act.put, List.setIfInBounds_toArray, List.set_cons_succ, List.set_cons_zero]; try rfl)))
            refine Dv.XT.last _ _ _ rfl rfl (by kernel_rfl) rfl rfl (fun vs wx hw hF => ?_) (fun v19 hv19 a' ha => ?_)
            focus
              have f16 : (fun v w' => FBuf wr w' 31 2 v (S.length + 1) (smc S ++ smc [(p.t, 0)]) : Value → World → Prop) _ wx := (hF 16 _ (by kernel_rfl) rfl).1 (by kernel_rfl)
              have q16 := (hF 16 _ (by kernel_rfl) rfl).2
              have f17 : FBuf wr wx 31 2 (.slice A6 (S ++ [(p.t, 0)]).length c6) (S ++ [(p.t, 0)]).length (smc (S ++ [(p.t, 0)])) := by
                rw [List.length_append, smc_app]; exact f16
              have hfin := HFM.out _ A6 c6 hw f17 vs
              have hl1 : (S ++ [(p.t, 0)]).length = S.length + 1 := by simp
              rw [hl1, ← Nat.add_assoc] at hfin
              have HFIN := Lib.hid hfin
              obtain ⟨g0, f0⟩ := HFR.out _ hw
              obtain ⟨g1, _⟩ := HYC.out _ hw
              rw [← Nat.add_assoc] at f0
              clear f16 f17 q16 hfin hl1 g0
              go_simp
              exact ⟨undef, HFIN.out⟩
            obtain _ := hv19
            simp only [Act.put] at ha
            subst ha
            repeat (first
              | (refine Dv.Chain.step (v := ?_) (a' := ?_) rfl rfl rfl ?_ ?_ ?_
                 rotate_left 2
                 focus (intro w; go_simp; try with_reducible rfl)
                 focus (simp only [Act.put, List.setIfInBounds_toArray, List.set_cons_succ, List.set_cons_zero]; try rfl))
              | (refine Dv.Chain.skip' (a' := ?_) rfl rfl rfl ?_ ?_
                 rotate_left 1
                 focus (simp only [Act.put, List.setIfInBounds_toArray, List.set_cons_succ, List.set_cons_zero]; try rfl)))
            refine Dv.XT.end_ (by decide) (fun vs w10 hv hfin => ?_)
            obtain ⟨A9, c9, hd9⟩ := hfin
            have HD9 := Lib.hid hd9
            have HZ9 := Lib.hid (HYZ.out A9 c9)
            have HL9 := Lib.hid (show (O2.set k ⟨yL, S ++ [(p.t, 0)], ya, yc, A9, c9⟩).length = n by rw [List.length_set]; exact HL.out)
            clear hd9 hv HYC HFR HFM HYZ HPC
            go_wp2_with fail
            go_roundw
            case rel => exact ⟨k + 1, _, by omega, by omega, by go_num, HL9, HD9, HZ9⟩
            case measure => simp [intOf]; omega
          · have hd : ((p.v : Int) % 7 == 0) = false := by rw [beq_eq_false_iff_ne]; omega
            have HZ3 := Lib.hid (show Szd O2 40 (40 + (k + 1)) from ⟨HZ.out.1, fun z hz => ⟨(HZ.out.2 z hz).1, by have := (HZ.out.2 z hz).2; omega⟩⟩)
            clear hv hms
            go_wp2_with fail
            go_roundw
            case rel => exact ⟨k + 1, O2, by omega, by omega, by go_num, HL, HD, HZ3⟩
            case measure => simp [intOf]; omega
        · have hcase : (k : Int) = (l.length : Int) ∨ ((k : Int) < (l.length : Int) ∧ (n : Int) ≤ (k : Int)) := by omega
          have hT := (HD.out.rtb (Below.refl _ _)).tb
          have hz1 := HZ.out.1
          have hz2 := HZ.out.2
          have hrw := fun w' (hb : Below wr.heap.size wr w') => rows14_any W (.slice tA n tc) O2 w' (hT.below hb) (by omega) (fun y hy => by have := hz2 y hy; omega)
          have hrg := fun w' (hb : Below wr.heap.size wr w') => rgood_any (.slice tA n tc) O2 w' (hT.below hb) (fun y hy => by have := hz2 y hy; omega)
          obtain ⟨G, hG⟩ : ∃ G, G = goodB (O2.map plR) := ⟨_, rfl⟩
          rw [← hG] at hrg
          have HG := Lib.hid hG
          have HRW := Lib.hid hrw
          have HRG := Lib.hid hrg
          clear hgo hT hz1 hz2 hrw hrg hG
          rcases hcase with h1 | ⟨h1, h2⟩
          case' inl => have h3 : (l.length : Int) ≤ (k : Int) := by omega
          case' inl => clear h1
          all_goals
            go_wp2_with fail
            refine (awake14_any _).mono ?_
            rintro e w5 ⟨rfl, b5⟩
            have HR5 := Lib.hid (HRW.out _ b5)
            have HB5 := Lib.hid b5
            clear b5
            go_wp2_with fail
            refine HR5.out.mono ?_
            rintro e w6 ⟨v6, t6, rfl, d6, m6⟩
            have hg6 := mgood_any _ _ _ (d6.rtb (below_trans hbw HB5.out)).tb
            rw [m6, ← HG.out] at hg6
            have HG6 := Lib.hid hg6
            have HB6 := Lib.hid (below_trans HB5.out d6.n.below)
            clear hg6 d6 m6 HR5 HB5
            go_wp2_with fail
            refine HG6.out.mono ?_
            rintro e w7 ⟨rfl, b7⟩
            have HB7 := Lib.hid (below_trans HB6.out b7)
            have HG7 := Lib.hid (HRG.out _ (below_trans HB6.out b7))
            clear b7 HG6 HB6
            go_wp2_with fail
            refine HG7.out.mono ?_
            rintro e w8 ⟨rfl, b8⟩
            have HB8 := Lib.hid (below_trans hbw (below_trans HB7.out b8))
            clear b8 HG7 HB7
            go_wp2_with fail
            go_ret
            exact ⟨by simp, HB8.out⟩
set_option maxHeartbeats 8000000 in
set_option maxRecDepth 100000 in
theorem mergeGood_lifted (os : Os) (started : os.Started) (H : Type) (enc : TypeId × Value → H) :
    ReturnsInHanded {} Tryd.checked os 6 .any (fun w args => (Rows.mergeGoodSpec.pre enc Tryd.prog Tryd.f6 [] false w args ∧ laidMetH Tryd.prog [("unicode/utf8.acceptRanges", Rows.laid_unicode_utf8_acceptRanges), ("unicode/utf8.first", Rows.laid_unicode_utf8_first)] w) ∧ sizedMet enc Tryd.prog Tryd.f6 (OpenSpec.ofChange Rows.mergeGoodSpec) false w args)
      (Rows.mergeGoodSpec.post enc Tryd.prog Tryd.f6 false true false false) := by
  refine returnsInHanded_of_change_and (C := Tryd.checked) (X := fun w _ => laidMetH Tryd.prog [("unicode/utf8.acceptRanges", Rows.laid_unicode_utf8_acceptRanges), ("unicode/utf8.first", Rows.laid_unicode_utf8_first)] w) (fun _ _ _ hh h => h.of_heap hh) law_own started (by kernel_rfl) Tryd.func6
    (ChangeSpec.witness_shaped (enc := enc) (C := Tryd.checked) (os := os) (X := fun w _ => laidMetH Tryd.prog [("unicode/utf8.acceptRanges", Rows.laid_unicode_utf8_acceptRanges), ("unicode/utf8.first", Rows.laid_unicode_utf8_first)] w) false (World.laidAll Tryd.prog os [("unicode/utf8.acceptRanges", Rows.laid_unicode_utf8_acceptRanges), ("unicode/utf8.first", Rows.laid_unicode_utf8_first)]) #[.slice none 0 0, .bool false] 8 (World.laidAll_os _ _ _)
      (World.shaped_of_ZipB (by kernel_rfl) (by kernel_rfl)) (by kernel_rfl) (by kernel_rfl) (by kernel_rfl) (door_met os _)) ?_
  intro W base args ds gs before hval0 hW _ _ hL _
  have hval : ∀ (j : Nat) t v, Tryd.f6.params[j]? = some t → args[j]? = some v → Value.okWide Tryd.prog W .any base t v := hval0
  have hW' := hW
  obtain ⟨p, q, hA0, hV, rfl, _, _⟩ := hW
  have hA : DataW.TrodAll enc Tryd.prog W 0 (fun _ => true) true Tryd.f6.params.toList args.toList ds p := hA0
  rw [Tryd.params6] at hA hval
  obtain ⟨v0, vs0, d0, ds0, p0, q0, hargs, rfl, rfl, h0, r0⟩ := trodAll_cons hA
  obtain ⟨v1, vs1, d1, ds1, p1, q1, rfl, rfl, rfl, h1, r1⟩ := trodAll_cons r0
  obtain ⟨rfl, rfl, rfl⟩ := trodAll_nil r1
  obtain rfl : args = #[v0, v1] := by cases args; simp_all
  obtain ⟨rfl, rfl⟩ := trodVars_none hV
  obtain ⟨a1, rfl, rfl, rfl⟩ := open_bool Tryd.underlying4 (hval 1 4 v1 rfl rfl) h1
  obtain ⟨ts0, hts0⟩ := open_arg14 (hval 0 25 v0 rfl rfl) h0
  refine (mergeGood_walk0 v0 ts0 a1 W hts0 (of_laid hL)).mono fun e W' ⟨he, hb⟩ => ?_
  subst he
  exact ⟨_, rfl, law_post law_laid (by intro t ht; rw [Tryd.params6] at ht; simp only [List.mem_cons, List.not_mem_nil, or_false] at ht; rcases ht with rfl | rfl <;> exact ⟨by kernel_rfl, of_decide_eq_true (by kernel_rfl)⟩) rfl Tryd.underlying4 rfl rfl hW' hb⟩

theorem mergeGood_holds : Rows.MergeGoodSaid :=
  OpenClaim.holds_of_wide 6 Tryd.f6 rfl rfl rfl rfl rfl rfl rfl ⟨rfl, rfl, rfl, rfl, rfl⟩ rfl rfl rfl rfl rfl (by kernel_rfl) Tryd.func6 (by kernel_rfl)
    (of_decide_eq_true (by kernel_rfl)) (by unfold Func.isWrapper; first | (rw [if_pos (by decide +kernel)]; kernel_rfl) | (rw [if_neg (by decide +kernel)]; exact ⟨rfl, rfl⟩))
    (fun os started H enc _ => mergeGood_lifted os started H enc)

theorem mergeGood_card : Rows.MergeGoodCardSaid :=
  Claim7.holds_tied_plain_at .later [] [.data, .pinned] true (true, "b5117781a2fc4f5bf1bebc4ed0b17e914806c6cca6626edf4671d5f934c5a5b4") true
    mergeGood_holds (fun _ h => by cases h) (by kernel_rfl) (fun _ h => by cases h) mergeGood_row_tie rfl ⟨rfl, rfl⟩ (by kernel_rfl) rfl
    (fun f fn hf hfn => by
      obtain rfl : f = 6 := Option.some.inj ((show Tryd.prog.funcNamed "barograph/barographlaw14.MergeGood" = some 6 by kernel_rfl).symm.trans hf) |>.symm
      obtain rfl : fn = Tryd.f6 := (Option.some.inj (Tryd.func6.symm.trans hfn)).symm
      exact ⟨by kernel_rfl, fun j t ht => by
        rw [Tryd.params6] at ht
        rcases j with _ | j
        · obtain rfl : t = 25 := by simpa using ht.symm
          exact (show Tryd.prog.wantsStandIn 25 = false by kernel_rfl)
        rcases j with _ | j
        · obtain rfl : t = 4 := by simpa using ht.symm
          exact (show Tryd.prog.wantsStandIn 4 = false by kernel_rfl)
        simp at ht⟩)
    (by kernel_rfl)

end Go.Proofs.YtfimalbdlepfnaaDoor
