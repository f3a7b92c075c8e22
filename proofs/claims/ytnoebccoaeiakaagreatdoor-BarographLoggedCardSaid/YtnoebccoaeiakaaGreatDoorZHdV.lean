/-
  Law 15 (head): the walk of Points: the law's points.
-/
import Derived.Test.YtnoebccoaeiakaaGreatDoorZRws
import Derived.Test.YtnoebccoaeiakaaGreatDoorZHdU
import Derived.Test.YtnoebccoaeiakaaGreatDoorZLib24
import Derived.Test.YtnoebccoaeiakaaGreatDoorZLib12
import Derived.Test.YtnoebccoaeiakaaGreatDoorZFrmM
import Derived.Test.YtnoebccoaeiakaaGreatDoorZLib17
import Derived.Test.YtnoebccoaeiakaaGreatDoorZWalV
import Derived.Test.YtnoebccoaeiakaaGreatDoorZLib31
import Derived.Test.YtnoebccoaeiakaaGreatDoorProg

namespace Go.Proofs.YtnoebccoaeiakaaGreatDoor
open Go.RowKit Go.Bar Go.Bar.Leb Go.Bar.Lab Go.Bar.Xor Go.Bar.Mrg Go.Bar.Hd
attribute [local go_sem] Oper.semAt_some
def ptL (o : On3) : List Pr := if o.nm = 255 then [] else lab5 o.nm
def ptT (o : On3) : Int := o.t.tmod 1000 - 2
def ptO (o : On3) : Pnt := (ptL o, (ptT o, o.v))
def ptsO (l : List On3) : List Pnt := (l.take 8).map ptO

theorem hpoint_ty : ElemTy Tryz.prog 38 100 (.agg #[.slice none 0 0, .int .i64 0, .int .u64 0]) 3 40 :=
  ⟨Tryz.underlying38, info_parts (show (Tryz.prog.info? 100).map (fun i => (i.zero, i.size, i.bytes)) = some (some (.agg #[.slice none 0 0, .int .i64 0, .int .u64 0]), 3, 40) by kernel_rfl), rfl⟩

theorem rpoint_ty : ElemTy Tryz.prog 39 103 (.agg #[.slice none 0 0, .int .i64 0, .int .u64 0]) 3 40 :=
  ⟨Tryz.underlying39, info_parts (show (Tryz.prog.info? 103).map (fun i => (i.zero, i.size, i.bytes)) = some (some (.agg #[.slice none 0 0, .int .i64 0, .int .u64 0]), 3, 40) by kernel_rfl), rfl⟩
structure PwB (W w : World) (v : Value) (l : List Pv) : Prop where
  n : NBuf W w 100 3 v l.length (pts3 l)
  d : ∀ p ∈ l, NBuf W w 155 2 (.slice p.la p.ls.length p.lc) p.ls.length (pcs p.ls)
section
variable {W w w' wa w2 : World} {v v2 : Value} {l : List Pv} {p : Pv}
theorem PwB.below (h : PwB W w v l) (hb : Below w.heap.size w w') : PwB W w' v l := ⟨h.n.then_below hb, fun p hp => (h.d p hp).then_below hb⟩
theorem PwB.ptb (h : PwB W w v l) : PtB w v l := ⟨h.n.buf, fun p hp => (h.d p hp).buf⟩
theorem PwB.snoc (h : PwB W wa v l) (hl : NBuf W wa 155 2 (.slice p.la p.ls.length p.lc) p.ls.length (pcs p.ls)) (hn : NBuf W w2 100 3 v2 (l.length + 1) (pts3 l ++ encPt p)) (ha : Ap wa w2 3 v) : PwB W w2 v2 (l ++ [p]) := by
  have hk : Ke (fun U => U = 100) wa w2 := Ke.of_ap h.n.buf ha rfl
  refine ⟨?_, fun q hq => ?_⟩
  · rw [List.length_append, pts3_snoc]
    exact hn
  · rcases List.mem_append.1 hq with hq | hq
    · exact ⟨hk.buf (h.d q hq).buf (by decide), hn.below, (h.d q hq).new⟩
    · obtain rfl := List.mem_singleton.1 hq
      exact ⟨hk.buf hl.buf (by decide), hn.below, hl.new⟩
theorem PwB.ap {e : TypeId} {sz n : Nat} {u : Value} {xs : List Value} (h : PwB W wa v l) (hb : NBuf W wa e sz u n xs) (ha : Ap wa w2 sz u) (hw : Below W.heap.size W w2) (h1 : 100 ≠ e) (h2 : 155 ≠ e) : PwB W w2 v l := by
  have hk : Ke (fun U => U = e) wa w2 := Ke.of_ap hb.buf ha rfl
  exact ⟨⟨hk.buf h.n.buf h1, hw, h.n.new⟩, fun p hp => ⟨hk.buf (h.d p hp).buf h2, hw, (h.d p hp).new⟩⟩
end
def FinTo (W : World) (n : Nat) (v : Value) (l : List Pv) (vs : Nat → Value) (w' : World) : Prop := (∃ ys, NBuf W w' 103 3 (vs 6) n ys) ∧ PwB W w' v l
def RetPts (w : World) (ps : List Pnt) (e : Ending) (w' : World) : Prop := ∃ v A n c l, e = .returned (.tuple #[v, .slice A n c]) ∧ PwB w w' v l ∧ l.map plP = ps

set_option maxHeartbeats 4000000 in
set_option maxRecDepth 10000 in
theorem points15_any (v : Value) (l : List On3) (W : World) (h : O3At W v l) (hok : ∀ z ∈ l, On3Ok z) :
    Calls Tryz.prog 8 #[v] W (RetPts W (ptsO l)) := by
  obtain ⟨A, cp, rfl, hlc, hcm⟩ := h.shape
  unfold maxLen at hcm
  have HT := Lib.hid h
  have HOK := Lib.hid hok
  have HN0 : Hid (PwB W ((W.alloc (.cells #[] 100)).alloc (.cells #[] 103)) (.slice (some ⟨W.heap.size, 0, none⟩) 0 0) []) := Lib.hid ⟨(NBuf.lit0 (Below.refl _ W) 100 3).alloc _, fun p hp => (by cases hp)⟩
  have HM0 : Hid (∃ ys, NBuf W ((W.alloc (.cells #[] 100)).alloc (.cells #[] 103)) 103 3 (.slice (some ⟨W.heap.size + 1, 0, none⟩) 0 0) 0 ys) := Lib.hid ⟨[], by
    have h1 := NBuf.lit0 (below_alloc1 W (.cells #[] 100)) 103 3
    simpa using h1⟩
  clear h hok
  go_enter Tryz.func8, Tryz.ntmps8
  go_wp2_with fail
  go_loopw [6, 4, 5] (fun i ov tv wr => ∃ (j : Nat) (O : List Pv) (tA : Option Addr) (tc : Nat), i = .int .i64 j ∧ j ≤ l.length ∧ j ≤ 8 ∧ tv = .slice tA j tc ∧ Hid (PwB W wr ov O) ∧ Hid (∃ ys, NBuf W wr 103 3 (.slice tA j tc) j ys) ∧ Hid (O.map plP = (l.map ptO).take j) ∧ Hid (O.length = j)) (fun i _ _ _ => 8 - (intOf i).toNat)
  case atStart => exact ⟨0, [], _, _, rfl, Nat.zero_le _, Nat.zero_le _, rfl, HN0, HM0, Lib.hid rfl, Lib.hid rfl⟩
  case round =>
    clear HN0 HM0
    obtain ⟨j, O, tA, tc, rfl, hj, hj8, rfl, HB, HM, HO, HJ⟩ := hrel
    obtain ⟨oA, oc, rfl, hoc⟩ := HB.out.n.buf.shape
    by_cases hgo : j < l.length ∧ j < 8
    · obtain ⟨hg1, hg2⟩ := hgo
      obtain ⟨⟨nm, T, V⟩, hx⟩ : ∃ x, l[j]? = some x := ⟨_, List.getElem?_eq_getElem hg1⟩
      have hbw := HB.out.n.below
      obtain ⟨xb, xo, rfl, x0, x1, x2⟩ := (HT.out.below hbw).at_ hx
      obtain ⟨hz1, ⟨hz2, hz3⟩, hz4⟩ := HOK.out _ (List.mem_of_getElem? hx)
      dsimp only at x0 x1 x2 hz1 hz2 hz3 hz4
      have hci : (0 : Int) ≤ (j : Int) := by omega
      have hci2 : (j : Int) < l.length := by omega
      have hci3 : (j : Int) < 8 := by omega
      have HX := Lib.hid hx
      have hlb := Lib.hid (labels_any nm wr)
      clear hx hbw
      go_upto_region 7 with (go_at_call 33; refine hlb.out.mono ?_; rintro e w1 ⟨v1, rfl, n1⟩; obtain ⟨lA, lc, rfl, _⟩ := n1.buf.shape)
      -- THE CASES
      have HN1 := Lib.hid (n1.after HB.out.n.below)
      have HB1 := Lib.hid (HB.out.below n1.below)
      have HM1 : Hid (∃ ys, NBuf W w1 103 3 (.slice tA j tc) j ys) := Lib.hid (HM.out.elim fun ys h => ⟨ys, h.then_below n1.below⟩)
      obtain ⟨_, _, he, z0, _, _⟩ := (HT.out.below HN1.out.below).at_ HX.out
      injection he with he
      injection he with e1 e2 _
      subst e1; subst e2
      dsimp only at z0
      clear HB HM n1 hlb x0 x1 x2
      by_cases h255 : nm = 255
      · subst h255
        obtain ⟨L, hL⟩ : ∃ L : List Pr, L = [] := ⟨_, rfl⟩
        have HPL : Hid (L = ptL ⟨255, T, V⟩) := Lib.hid hL
        have HNL : Hid (NBuf W w1 155 2 (.slice none L.length 0) L.length (pcs L)) := Lib.hid (by rw [hL]; exact NBuf.nil HN1.out.below _ _)
        have hLl : L.length ≤ 1000000 := by rw [hL]; decide
        have e00 : Value.slice none 0 0 = Value.slice none L.length 0 := by rw [hL]; rfl
        have HLE := Lib.hid hL
        have HE00 := Lib.hid e00
        clear hL e00
        obtain ⟨_, _, he, y0, y1, y2⟩ := (HT.out.below HN1.out.below).at_ HX.out
        injection he with he
        injection he with e1 e2 _
        subst e1; subst e2
        dsimp only at y0 y1 y2
        have y1a := fun o => ((below_alloc1 w1 o).cell (World.block_lt_of_cell? _ _ y1)).trans y1
        have y2a := fun o => ((below_alloc1 w1 o).cell (World.block_lt_of_cell? _ _ y2)).trans y2
        go_upto_region 9 with fail
        rw [HE00.out]
        go_region
        have hT1 : -1000 < T.tmod 1000 := by have := Int.lt_tmod_of_pos T (show (0 : Int) < 1000 by decide); omega
        have hT2 : T.tmod 1000 < 1000 := Int.tmod_lt_of_pos T (by decide)
        obtain ⟨T2, hT2e⟩ : ∃ T2, T2 = wrap64 (T.tmod 1000 - 2) := ⟨_, rfl⟩
        rw [← hT2e]
        have HT2 : Hid (T2 = T.tmod 1000 - 2) := Lib.hid (by rw [hT2e]; unfold wrap64; omega)
        have hba : Below w1.heap.size w1 (w1.alloc (.cells #[.int .i64 T2, .int .u64 (V : Nat)] 98)).drew := ((Below.refl _ w1).alloc (Nat.le_refl _) _).drew
        have BS := (Blk.new w1 #[.int .i64 T2, .int .u64 (V : Nat)] 98).drew
        obtain ⟨K, hK⟩ : ∃ K, K = w1.heap.size := ⟨_, rfl⟩
        obtain ⟨w2, hw2⟩ : ∃ w2, w2 = (w1.alloc (.cells #[.int .i64 T2, .int .u64 (V : Nat)] 98)).drew := ⟨_, rfl⟩
        rw [← hw2] at hba BS ⊢
        rw [← hK] at BS ⊢
        have HB2 := Lib.hid (HB1.out.below hba)
        have HNL2 := Lib.hid (HNL.out.then_below hba)
        have HM2 : Hid (∃ ys, NBuf W w2 103 3 (.slice tA j tc) j ys) := Lib.hid (HM1.out.elim fun ys h => ⟨ys, h.then_below hba⟩)
        obtain ⟨q0, q1⟩ := BS.c2
        obtain ⟨n, hn⟩ : ∃ n, n = O.length := ⟨_, rfl⟩
        have hnb : n ≤ 8 := by have := HJ.out; omega
        have HN := Lib.hid hn
        rw [← hn] at HB2 ⊢
        have hbn := HB2.out.n
        rw [← HN.out] at hbn
        have HBN := Lib.hid hbn
        clear hbn hn hw2 hK hba y0 y1 y2 y1a y2a z0 hT1 hT2 hT2e HB1 HM1 HN1 HNL
        go_upto_region 11 with (at_builtin; refine wpList_append_nlit rfl (.tmp 46) (.tmp 50) 38 rfl hpoint_ty rfl HBN.out rfl (by simp) rfl (by simp [Value.oneCell']) (by simp only [maxLen]; omega) (by omega) ?_; intro v5 w5 hn5 ha5; have HN5 := Lib.hid hn5; have HA5 := Lib.hid ha5; clear hn5 ha5)
        obtain ⟨v5A, v5c, rfl, _⟩ := HN5.out.buf.shape
        have hba2 := below_alloc1 w2 (.cells #[.slice none L.length 0, .int .i64 T2, .int .u64 (V : Nat)] 100)
        have HP5 : Hid (PwB W w5 (.slice v5A (n + 1) v5c) (O ++ [⟨L, none, 0, (T2, V)⟩])) := Lib.hid ((HB2.out.below hba2).snoc (HNL2.out.then_below hba2) (by rw [← HN.out]; exact HN5.out) HA5.out)
        have hk5 : Ke (fun U => U = 100) (w2.alloc (.cells #[.slice none L.length 0, .int .i64 T2, .int .u64 (V : Nat)] 100)) w5 := Ke.of_ap (HBN.out.then_below hba2).buf HA5.out rfl
        have HM5 : Hid (∃ ys, NBuf W w5 103 3 (.slice tA j tc) j ys) := Lib.hid (HM2.out.elim fun ys h => ⟨ys, ⟨hk5.buf (h.then_below hba2).buf (by decide), HP5.out.n.below, h.new⟩⟩)
        have BS5 := hk5.blk (BS.below hba2) (by decide)
        have HL5 : Hid (Buf w5 155 2 (.slice none L.length 0) L.length (pcs L)) := Lib.hid (hk5.buf (HNL2.out.then_below hba2).buf (by decide))
        clear hba2 hk5 HM2 HNL2 HB2 HBN HN5 HA5 BS q0 q1
        obtain ⟨ys, hys⟩ := HM5.out
        have HYS := Lib.hid hys
        clear hys HM5
        have hstT : ∀ k v w w', Below w.heap.size w w' → Dv.factOf ([(2, ((fun v => ∃ A c, v = .slice A L.length c), noFact, 2)), (3, ((fun v => v = (.agg #[.int .i64 T2, .int .u64 (V : Nat)])), noFact, 3)), (5, ((fun v => ∃ B, v = .slice (some ⟨B, 0, none⟩) 1 1), (fun v w' => ∃ va, Buf w' 103 3 v 1 [va, .int .i64 T2, .int .u64 (V : Nat)] ∧ va.oneCell' = true), 6)), (6, ((fun v => ∃ A c, v = .slice A (j + 1) c), noFact, 6))] : List (Nat × Dv.Kp)) k v w → Dv.factOf ([(2, ((fun v => ∃ A c, v = .slice A L.length c), noFact, 2)), (3, ((fun v => v = (.agg #[.int .i64 T2, .int .u64 (V : Nat)])), noFact, 3)), (5, ((fun v => ∃ B, v = .slice (some ⟨B, 0, none⟩) 1 1), (fun v w' => ∃ va, Buf w' 103 3 v 1 [va, .int .i64 T2, .int .u64 (V : Nat)] ∧ va.oneCell' = true), 6)), (6, ((fun v => ∃ A c, v = .slice A (j + 1) c), noFact, 6))] : List (Nat × Dv.Kp)) k v w' := Dv.fact_st (by
          simp only [List.forall_mem_cons, List.not_mem_nil, false_imp_iff, implies_true, and_true]
          refine ⟨?_, ?_, ?_, ?_⟩
          · exact fun _ _ _ _ _ => trivial
          · exact fun _ _ _ _ _ => trivial
          · exact fun _ _ _ hb h => by obtain ⟨va, h1, h2⟩ := h; exact ⟨va, h1.below hb, h2⟩
          · exact fun _ _ _ _ _ => trivial)
        have htrT : ∀ x ∈ ([(2, ((fun v => ∃ A c, v = .slice A L.length c), noFact, 2)), (3, ((fun v => v = (.agg #[.int .i64 T2, .int .u64 (V : Nat)])), noFact, 3)), (5, ((fun v => ∃ B, v = .slice (some ⟨B, 0, none⟩) 1 1), (fun v w' => ∃ va, Buf w' 103 3 v 1 [va, .int .i64 T2, .int .u64 (V : Nat)] ∧ va.oneCell' = true), 6)), (6, ((fun v => ∃ A c, v = .slice A (j + 1) c), noFact, 6))] : List (Nat × Dv.Kp)), (([(2, ((fun v => ∃ A c, v = .slice A L.length c), noFact, 2)), (3, ((fun v => v = (.agg #[.int .i64 T2, .int .u64 (V : Nat)])), noFact, 3)), (5, ((fun v => ∃ B, v = .slice (some ⟨B, 0, none⟩) 1 1), (fun v w' => ∃ va, Buf w' 103 3 v 1 [va, .int .i64 T2, .int .u64 (V : Nat)] ∧ va.oneCell' = true), 6)), (6, ((fun v => ∃ A c, v = .slice A (j + 1) c), noFact, 6))] : List (Nat × Dv.Kp)).lookup x.2.2.2).isSome = true := by
          simp only [List.forall_mem_cons, List.not_mem_nil, false_imp_iff, implies_true, and_true]
          exact ⟨by kernel_rfl, by kernel_rfl, by kernel_rfl, by kernel_rfl⟩
        refine Dv.wp_region_two (L := ([(2, ((fun v => ∃ A c, v = .slice A L.length c), noFact, 2)), (3, ((fun v => v = (.agg #[.int .i64 T2, .int .u64 (V : Nat)])), noFact, 3)), (5, ((fun v => ∃ B, v = .slice (some ⟨B, 0, none⟩) 1 1), (fun v w' => ∃ va, Buf w' 103 3 v 1 [va, .int .i64 T2, .int .u64 (V : Nat)] ∧ va.oneCell' = true), 6)), (6, ((fun v => ∃ A c, v = .slice A (j + 1) c), noFact, 6))] : List (Nat × Dv.Kp))) (m := 6) (Fin := (FinTo W (j + 1) (.slice v5A (n + 1) v5c) (O ++ [⟨L, none, 0, (T2, V)⟩]))) (by kernel_rfl) 61 (by kernel_rfl) rfl (by kernel_rfl) ?_ ?_ ?_
        · simp only [List.forall_mem_cons, List.not_mem_nil, false_imp_iff, implies_true, and_true]
          exact ⟨⟨_, none, 0, rfl⟩, ⟨_, rfl⟩, ⟨_, 0, rfl⟩, ⟨_, none, 0, rfl⟩⟩
        · exact (fun vs vs' w' h hf => by unfold FinTo at hf ⊢; rw [← h 6 (by kernel_rfl) (by decide)]; exact hf)
        repeat (first
          | (refine Dv.Chain.step (v := ?_) (a' := ?_) rfl rfl rfl ?_ ?_ ?_; rotate_left 2; (focus (intro w; go_simp; try with_reducible rfl)); focus (simp only [Act.put, pqA, pqS, pqZ]; try rfl))
          | (refine Dv.XT.make (i := 2) _ _ _ rfl (by decide) hstT rfl rfl (fun wx hw hF => ?_) htrT (fun v2 hv2 a' ha => ?_); (focus (go_simp); (with_reducible refine (told_any6 _ L wx (ps_of (HL5.out.below hw)) hLl).mono ?_); (rintro e w' ⟨v6, rfl, n6⟩); (obtain ⟨A6, c6, rfl, _⟩ := n6.buf.shape); (first | exact ⟨⟨_, _, rfl⟩, n6.below, trivial⟩ | exact ⟨⟨_, _, rfl⟩, n6.below⟩ | exact ⟨n6.below, trivial⟩ | exact n6.below)); obtain ⟨A2, c2, rfl⟩ := hv2; simp only [Act.put, pqA, pqS, pqZ] at ha; subst ha)
          | (refine Dv.XT.call (i := 3) (a' := ?_) _ _ rfl (by decide) hstT rfl rfl (fun wx hw hF => ?_) htrT ?_ ?_; rotate_left 1; (focus ((obtain ⟨g0, g1⟩ := (BS5.below hw).c2; go_simp; first | exact ⟨rfl, rB⟩ | exact rB))); focus (simp only [Act.put, pqA, pqS, pqZ]; try rfl))
          | (refine Dv.XT.make (i := 5) _ _ _ rfl (by decide) hstT rfl rfl (fun wx hw hF => ?_) htrT (fun v5 hv5 a' ha => ?_); (focus (have hnew := Buf.lit wx 103 3 1 [.slice A2 L.length c2, .int .i64 T2, .int .u64 (V : Nat)] rfl (by decide)); (have hfk : ∃ va, Buf (wx.alloc (.cells #[.slice A2 L.length c2, .int .i64 T2, .int .u64 (V : Nat)] 103)) 103 3 (.slice (some ⟨wx.heap.size, 0, none⟩) 1 1) 1 [va, .int .i64 T2, .int .u64 (V : Nat)] ∧ va.oneCell' = true := ⟨_, hnew, rfl⟩); (have HFK := Lib.hid hfk); (have HBA := Lib.hid (below_alloc1 wx (.cells #[.slice A2 L.length c2, .int .i64 T2, .int .u64 (V : Nat)] 103))); (clear hfk hnew); (go_simp); (first | exact ⟨⟨_, rfl⟩, HBA.out, HFK.out⟩ | exact ⟨HBA.out, HFK.out⟩ | exact HFK.out)); obtain ⟨B5, rfl⟩ := hv5; simp only [Act.put, pqA, pqS, pqZ] at ha; subst ha)
          | (refine Dv.XT.last (i := 6) _ _ _ rfl rfl (by kernel_rfl) rfl rfl (fun vs wx hw hF => ?_) (fun v6 hv6 a' ha => ?_); (focus (have f5 : (fun v w' => ∃ va, Buf w' 103 3 v 1 [va, .int .i64 T2, .int .u64 (V : Nat)] ∧ va.oneCell' = true : Value → World → Prop) _ wx := (hF 5 _ (by kernel_rfl) rfl).1 (by kernel_rfl)); (have q5 := (hF 5 _ (by kernel_rfl) rfl).2); (obtain ⟨va, h1, h2⟩ := f5); (have hyx := HYS.out.then_below hw); (refine oper_append_buf _ _ _ rfl rpoint_ty rfl hyx.buf rfl (h1.src rpoint_ty.slice (by intro u hu; simp at hu; rcases hu with rfl | rfl | rfl; exact h2; rfl; rfl)) (by simp only [maxLen]; omega) (by omega) ?_); (intro v' w' hb ha hg); (have hst := hyx.step hb ha hg); (have hpw := (HP5.out.below hw).ap hyx ha hst.below (by decide) (by decide)); (obtain ⟨A6, c6, rfl, _⟩ := hb.shape); (exact ⟨_, rfl, ⟨_, _, rfl⟩, ⟨_, hst⟩, hpw⟩)); obtain ⟨A6, c6, rfl⟩ := hv6; simp only [Act.put, pqA, pqS, pqZ] at ha; subst ha)
          | (refine Dv.Chain.skip' (a' := ?_) rfl rfl rfl ?_ ?_; rotate_left 1; focus (simp only [Act.put, pqA, pqS, pqZ]; try rfl)))
        refine Dv.XT.end_ (by decide) (fun vs w9 hv hfin => ?_)
        have hv6 := hv 6 _ rfl
        unfold FinTo at hfin
        rw [hv6] at hfin
        have HM9 := Lib.hid hfin.1
        have HP9 := Lib.hid hfin.2
        have HO9 : Hid ((O ++ [(⟨L, none, 0, (T2, V)⟩ : Pv)]).map plP = (l.map ptO).take (j + 1)) := Lib.hid (by
          rw [List.map_append, HO.out, List.take_add_one, List.getElem?_map, HX.out]
          show _ ++ [(L, (T2, V))] = _ ++ [(ptL _, (ptT _, V))]
          rw [HT2.out, HPL.out]
          rfl)
        have HJ9 : Hid ((O ++ [(⟨L, none, 0, (T2, V)⟩ : Pv)]).length = j + 1) := Lib.hid (by rw [List.length_append, HJ.out]; rfl)
        clear hfin hv hv6 HP5 HYS HL5 BS5 HO HJ HPL HT2
        clear hLl
        obtain rfl := HLE.out
        simp only [List.length_nil]
        go_wp2_with fail
        go_roundw
        case rel => exact ⟨j + 1, _, A6, c6, by go_num, by omega, by omega, (by first | rfl | trivial), HP9, HM9, HO9, HJ9⟩
        case measure => simp [intOf]; omega
      · have hne : ((nm : Int) == 255) = false := by rw [beq_eq_false_iff_ne]; omega
        have HPL : Hid (lab5 nm = ptL ⟨nm, T, V⟩) := Lib.hid (by unfold ptL; rw [if_neg h255])
        have HNL := HN1
        obtain ⟨_, _, he, y0, y1, y2⟩ := (HT.out.below HN1.out.below).at_ HX.out
        injection he with he
        injection he with e1 e2 _
        subst e1; subst e2
        dsimp only at y0 y1 y2
        have y1a := fun o => ((below_alloc1 w1 o).cell (World.block_lt_of_cell? _ _ y1)).trans y1
        have y2a := fun o => ((below_alloc1 w1 o).cell (World.block_lt_of_cell? _ _ y2)).trans y2
        go_upto_region 9 with fail
        go_region
        have hT1 : -1000 < T.tmod 1000 := by have := Int.lt_tmod_of_pos T (show (0 : Int) < 1000 by decide); omega
        have hT2 : T.tmod 1000 < 1000 := Int.tmod_lt_of_pos T (by decide)
        obtain ⟨T2, hT2e⟩ : ∃ T2, T2 = wrap64 (T.tmod 1000 - 2) := ⟨_, rfl⟩
        rw [← hT2e]
        have HT2 : Hid (T2 = T.tmod 1000 - 2) := Lib.hid (by rw [hT2e]; unfold wrap64; omega)
        have hba : Below w1.heap.size w1 (w1.alloc (.cells #[.int .i64 T2, .int .u64 (V : Nat)] 98)).drew := ((Below.refl _ w1).alloc (Nat.le_refl _) _).drew
        have BS := (Blk.new w1 #[.int .i64 T2, .int .u64 (V : Nat)] 98).drew
        obtain ⟨K, hK⟩ : ∃ K, K = w1.heap.size := ⟨_, rfl⟩
        obtain ⟨w2, hw2⟩ : ∃ w2, w2 = (w1.alloc (.cells #[.int .i64 T2, .int .u64 (V : Nat)] 98)).drew := ⟨_, rfl⟩
        rw [← hw2] at hba BS ⊢
        rw [← hK] at BS ⊢
        have HB2 := Lib.hid (HB1.out.below hba)
        have HNL2 := Lib.hid (HNL.out.then_below hba)
        have HM2 : Hid (∃ ys, NBuf W w2 103 3 (.slice tA j tc) j ys) := Lib.hid (HM1.out.elim fun ys h => ⟨ys, h.then_below hba⟩)
        obtain ⟨q0, q1⟩ := BS.c2
        obtain ⟨n, hn⟩ : ∃ n, n = O.length := ⟨_, rfl⟩
        have hnb : n ≤ 8 := by have := HJ.out; omega
        have HN := Lib.hid hn
        rw [← hn] at HB2 ⊢
        have hbn := HB2.out.n
        rw [← HN.out] at hbn
        have HBN := Lib.hid hbn
        clear hbn hn hw2 hK hba y0 y1 y2 y1a y2a z0 hT1 hT2 hT2e HB1 HM1 HN1 HNL
        go_upto_region 11 with (at_builtin; refine wpList_append_nlit rfl (.tmp 46) (.tmp 50) 38 rfl hpoint_ty rfl HBN.out rfl (by simp) rfl (by simp [Value.oneCell']) (by simp only [maxLen]; omega) (by omega) ?_; intro v5 w5 hn5 ha5; have HN5 := Lib.hid hn5; have HA5 := Lib.hid ha5; clear hn5 ha5)
        obtain ⟨v5A, v5c, rfl, _⟩ := HN5.out.buf.shape
        have hba2 := below_alloc1 w2 (.cells #[.slice lA (lab5 nm).length lc, .int .i64 T2, .int .u64 (V : Nat)] 100)
        have HP5 : Hid (PwB W w5 (.slice v5A (n + 1) v5c) (O ++ [⟨(lab5 nm), lA, lc, (T2, V)⟩])) := Lib.hid ((HB2.out.below hba2).snoc (HNL2.out.then_below hba2) (by rw [← HN.out]; exact HN5.out) HA5.out)
        have hk5 : Ke (fun U => U = 100) (w2.alloc (.cells #[.slice lA (lab5 nm).length lc, .int .i64 T2, .int .u64 (V : Nat)] 100)) w5 := Ke.of_ap (HBN.out.then_below hba2).buf HA5.out rfl
        have HM5 : Hid (∃ ys, NBuf W w5 103 3 (.slice tA j tc) j ys) := Lib.hid (HM2.out.elim fun ys h => ⟨ys, ⟨hk5.buf (h.then_below hba2).buf (by decide), HP5.out.n.below, h.new⟩⟩)
        have BS5 := hk5.blk (BS.below hba2) (by decide)
        have HL5 : Hid (Buf w5 155 2 (.slice lA (lab5 nm).length lc) (lab5 nm).length (pcs (lab5 nm))) := Lib.hid (hk5.buf (HNL2.out.then_below hba2).buf (by decide))
        have hLl : ((lab5 nm) : List Pr).length ≤ 1000000 := by unfold lab5; split <;> simp
        clear hba2 hk5 HM2 HNL2 HB2 HBN HN5 HA5 BS q0 q1
        obtain ⟨ys, hys⟩ := HM5.out
        have HYS := Lib.hid hys
        clear hys HM5
        have hstT : ∀ k v w w', Below w.heap.size w w' → Dv.factOf ([(2, ((fun v => ∃ A c, v = .slice A (lab5 nm).length c), noFact, 2)), (3, ((fun v => v = (.agg #[.int .i64 T2, .int .u64 (V : Nat)])), noFact, 3)), (5, ((fun v => ∃ B, v = .slice (some ⟨B, 0, none⟩) 1 1), (fun v w' => ∃ va, Buf w' 103 3 v 1 [va, .int .i64 T2, .int .u64 (V : Nat)] ∧ va.oneCell' = true), 6)), (6, ((fun v => ∃ A c, v = .slice A (j + 1) c), noFact, 6))] : List (Nat × Dv.Kp)) k v w → Dv.factOf ([(2, ((fun v => ∃ A c, v = .slice A (lab5 nm).length c), noFact, 2)), (3, ((fun v => v = (.agg #[.int .i64 T2, .int .u64 (V : Nat)])), noFact, 3)), (5, ((fun v => ∃ B, v = .slice (some ⟨B, 0, none⟩) 1 1), (fun v w' => ∃ va, Buf w' 103 3 v 1 [va, .int .i64 T2, .int .u64 (V : Nat)] ∧ va.oneCell' = true), 6)), (6, ((fun v => ∃ A c, v = .slice A (j + 1) c), noFact, 6))] : List (Nat × Dv.Kp)) k v w' := Dv.fact_st (by
          simp only [List.forall_mem_cons, List.not_mem_nil, false_imp_iff, implies_true, and_true]
          refine ⟨?_, ?_, ?_, ?_⟩
          · exact fun _ _ _ _ _ => trivial
          · exact fun _ _ _ _ _ => trivial
          · exact fun _ _ _ hb h => by obtain ⟨va, h1, h2⟩ := h; exact ⟨va, h1.below hb, h2⟩
          · exact fun _ _ _ _ _ => trivial)
        have htrT : ∀ x ∈ ([(2, ((fun v => ∃ A c, v = .slice A (lab5 nm).length c), noFact, 2)), (3, ((fun v => v = (.agg #[.int .i64 T2, .int .u64 (V : Nat)])), noFact, 3)), (5, ((fun v => ∃ B, v = .slice (some ⟨B, 0, none⟩) 1 1), (fun v w' => ∃ va, Buf w' 103 3 v 1 [va, .int .i64 T2, .int .u64 (V : Nat)] ∧ va.oneCell' = true), 6)), (6, ((fun v => ∃ A c, v = .slice A (j + 1) c), noFact, 6))] : List (Nat × Dv.Kp)), (([(2, ((fun v => ∃ A c, v = .slice A (lab5 nm).length c), noFact, 2)), (3, ((fun v => v = (.agg #[.int .i64 T2, .int .u64 (V : Nat)])), noFact, 3)), (5, ((fun v => ∃ B, v = .slice (some ⟨B, 0, none⟩) 1 1), (fun v w' => ∃ va, Buf w' 103 3 v 1 [va, .int .i64 T2, .int .u64 (V : Nat)] ∧ va.oneCell' = true), 6)), (6, ((fun v => ∃ A c, v = .slice A (j + 1) c), noFact, 6))] : List (Nat × Dv.Kp)).lookup x.2.2.2).isSome = true := by
          simp only [List.forall_mem_cons, List.not_mem_nil, false_imp_iff, implies_true, and_true]
          exact ⟨by kernel_rfl, by kernel_rfl, by kernel_rfl, by kernel_rfl⟩
        refine Dv.wp_region_two (L := ([(2, ((fun v => ∃ A c, v = .slice A (lab5 nm).length c), noFact, 2)), (3, ((fun v => v = (.agg #[.int .i64 T2, .int .u64 (V : Nat)])), noFact, 3)), (5, ((fun v => ∃ B, v = .slice (some ⟨B, 0, none⟩) 1 1), (fun v w' => ∃ va, Buf w' 103 3 v 1 [va, .int .i64 T2, .int .u64 (V : Nat)] ∧ va.oneCell' = true), 6)), (6, ((fun v => ∃ A c, v = .slice A (j + 1) c), noFact, 6))] : List (Nat × Dv.Kp))) (m := 6) (Fin := (FinTo W (j + 1) (.slice v5A (n + 1) v5c) (O ++ [⟨(lab5 nm), lA, lc, (T2, V)⟩]))) (by kernel_rfl) 61 (by kernel_rfl) rfl (by kernel_rfl) ?_ ?_ ?_
        · simp only [List.forall_mem_cons, List.not_mem_nil, false_imp_iff, implies_true, and_true]
          exact ⟨⟨_, none, 0, rfl⟩, ⟨_, rfl⟩, ⟨_, 0, rfl⟩, ⟨_, none, 0, rfl⟩⟩
        · exact (fun vs vs' w' h hf => by unfold FinTo at hf ⊢; rw [← h 6 (by kernel_rfl) (by decide)]; exact hf)
        repeat (first
          | (refine Dv.Chain.step (v := ?_) (a' := ?_) rfl rfl rfl ?_ ?_ ?_; rotate_left 2; (focus (intro w; go_simp; try with_reducible rfl)); focus (simp only [Act.put, pqA, pqS, pqZ]; try rfl))
          | (refine Dv.XT.make (i := 2) _ _ _ rfl (by decide) hstT rfl rfl (fun wx hw hF => ?_) htrT (fun v2 hv2 a' ha => ?_); (focus (go_simp); (with_reducible refine (told_any6 _ (lab5 nm) wx (ps_of (HL5.out.below hw)) hLl).mono ?_); (rintro e w' ⟨v6, rfl, n6⟩); (obtain ⟨A6, c6, rfl, _⟩ := n6.buf.shape); (first | exact ⟨⟨_, _, rfl⟩, n6.below, trivial⟩ | exact ⟨⟨_, _, rfl⟩, n6.below⟩ | exact ⟨n6.below, trivial⟩ | exact n6.below)); obtain ⟨A2, c2, rfl⟩ := hv2; simp only [Act.put, pqA, pqS, pqZ] at ha; subst ha)
          | (refine Dv.XT.call (i := 3) (a' := ?_) _ _ rfl (by decide) hstT rfl rfl (fun wx hw hF => ?_) htrT ?_ ?_; rotate_left 1; (focus ((obtain ⟨g0, g1⟩ := (BS5.below hw).c2; go_simp; first | exact ⟨rfl, rB⟩ | exact rB))); focus (simp only [Act.put, pqA, pqS, pqZ]; try rfl))
          | (refine Dv.XT.make (i := 5) _ _ _ rfl (by decide) hstT rfl rfl (fun wx hw hF => ?_) htrT (fun v5 hv5 a' ha => ?_); (focus (have hnew := Buf.lit wx 103 3 1 [.slice A2 (lab5 nm).length c2, .int .i64 T2, .int .u64 (V : Nat)] rfl (by decide)); (have hfk : ∃ va, Buf (wx.alloc (.cells #[.slice A2 (lab5 nm).length c2, .int .i64 T2, .int .u64 (V : Nat)] 103)) 103 3 (.slice (some ⟨wx.heap.size, 0, none⟩) 1 1) 1 [va, .int .i64 T2, .int .u64 (V : Nat)] ∧ va.oneCell' = true := ⟨_, hnew, rfl⟩); (have HFK := Lib.hid hfk); (have HBA := Lib.hid (below_alloc1 wx (.cells #[.slice A2 (lab5 nm).length c2, .int .i64 T2, .int .u64 (V : Nat)] 103))); (clear hfk hnew); (go_simp); (first | exact ⟨⟨_, rfl⟩, HBA.out, HFK.out⟩ | exact ⟨HBA.out, HFK.out⟩ | exact HFK.out)); obtain ⟨B5, rfl⟩ := hv5; simp only [Act.put, pqA, pqS, pqZ] at ha; subst ha)
          | (refine Dv.XT.last (i := 6) _ _ _ rfl rfl (by kernel_rfl) rfl rfl (fun vs wx hw hF => ?_) (fun v6 hv6 a' ha => ?_); (focus (have f5 : (fun v w' => ∃ va, Buf w' 103 3 v 1 [va, .int .i64 T2, .int .u64 (V : Nat)] ∧ va.oneCell' = true : Value → World → Prop) _ wx := (hF 5 _ (by kernel_rfl) rfl).1 (by kernel_rfl)); (have q5 := (hF 5 _ (by kernel_rfl) rfl).2); (obtain ⟨va, h1, h2⟩ := f5); (have hyx := HYS.out.then_below hw); (refine oper_append_buf _ _ _ rfl rpoint_ty rfl hyx.buf rfl (h1.src rpoint_ty.slice (by intro u hu; simp at hu; rcases hu with rfl | rfl | rfl; exact h2; rfl; rfl)) (by simp only [maxLen]; omega) (by omega) ?_); (intro v' w' hb ha hg); (have hst := hyx.step hb ha hg); (have hpw := (HP5.out.below hw).ap hyx ha hst.below (by decide) (by decide)); (obtain ⟨A6, c6, rfl, _⟩ := hb.shape); (exact ⟨_, rfl, ⟨_, _, rfl⟩, ⟨_, hst⟩, hpw⟩)); obtain ⟨A6, c6, rfl⟩ := hv6; simp only [Act.put, pqA, pqS, pqZ] at ha; subst ha)
          | (refine Dv.Chain.skip' (a' := ?_) rfl rfl rfl ?_ ?_; rotate_left 1; focus (simp only [Act.put, pqA, pqS, pqZ]; try rfl)))
        refine Dv.XT.end_ (by decide) (fun vs w9 hv hfin => ?_)
        have hv6 := hv 6 _ rfl
        unfold FinTo at hfin
        rw [hv6] at hfin
        have HM9 := Lib.hid hfin.1
        have HP9 := Lib.hid hfin.2
        have HO9 : Hid ((O ++ [(⟨(lab5 nm), lA, lc, (T2, V)⟩ : Pv)]).map plP = (l.map ptO).take (j + 1)) := Lib.hid (by
          rw [List.map_append, HO.out, List.take_add_one, List.getElem?_map, HX.out]
          show _ ++ [((lab5 nm), (T2, V))] = _ ++ [(ptL _, (ptT _, V))]
          rw [HT2.out, HPL.out]
          rfl)
        have HJ9 : Hid ((O ++ [(⟨(lab5 nm), lA, lc, (T2, V)⟩ : Pv)]).length = j + 1) := Lib.hid (by rw [List.length_append, HJ.out]; rfl)
        clear hfin hv hv6 HP5 HYS HL5 BS5 HO HJ HPL HT2
        go_wp2_with fail
        go_roundw
        case rel => exact ⟨j + 1, _, A6, c6, by go_num, by omega, by omega, (by first | rfl | trivial), HP9, HM9, HO9, HJ9⟩
        case measure => simp [intOf]; omega
    · obtain ⟨k, hkz⟩ : ∃ k, k = j := ⟨_, rfl⟩
      have hend : (l.map ptO).take j = ptsO l := by
        unfold ptsO
        rw [← List.map_take]
        rcases Nat.lt_or_ge j 8 with h8 | h8
        · have : j = l.length := by omega
          rw [List.take_of_length_le (by omega), List.take_of_length_le (by omega)]
        · have : j = 8 := by omega
          rw [this]
      have ho := HO.out
      rw [hend] at ho
      have HZ := Lib.hid ho
      have hcase : ¬ (j : Int) < l.length ∨ ((j : Int) < l.length ∧ ¬ (j : Int) < 8) := by omega
      clear ho hend HO hkz hgo
      rcases hcase with hc | ⟨hc, hc2⟩
      all_goals
        go_wp2_with fail
        go_ret2
        exact ⟨_, tA, j, tc, O, rfl, HB.out, HZ.out⟩
end Go.Proofs.YtnoebccoaeiakaaGreatDoor

namespace Go.Bar.Wal
open Go.RowKit Go.Bar

def fiV (f : Fi) : Value := .agg #[.string (bs f.s), .int .i64 (f.sure : Nat)]
def fiD (f : Fi) : DataW Unit := .agg [.lit (.string f.s), .lit (.int .i64 (f.sure : Nat))]
theorem fiV_inj {f g : Fi} (h : fiV f = fiV g) : f = g := by
  unfold fiV at h
  injection h with h
  have h1 := congrArg (fun x : Array Value => x[0]?) h
  have h2 := congrArg (fun x : Array Value => x[1]?) h
  simp only [List.getElem?_toArray, List.getElem?_cons_zero, List.getElem?_cons_succ, Option.some.injEq, Value.string.injEq, Value.int.injEq, true_and] at h1 h2
  have h3 := congrArg (fun x : ByteArray => x.data.toList) h1
  obtain ⟨s, a⟩ := f
  obtain ⟨s2, a2⟩ := g
  have e1 : s = s2 := by simpa [bs] using h3
  have e2 : a = a2 := by exact Int.ofNat.inj h2
  rw [e1, e2]
theorem fiD_inj {f g : Fi} (h : fiD f = fiD g) : f = g := by
  unfold fiD at h
  simp only [DataW.agg.injEq, List.cons.injEq, DataW.lit.injEq, Lit.string.injEq, Lit.int.injEq, true_and, and_true] at h
  obtain ⟨s, a⟩ := f
  obtain ⟨s2, a2⟩ := g
  obtain ⟨h1, h2⟩ := h
  have e2 : a = a2 := by exact Int.ofNat.inj h2
  simp only at h1
  rw [h1, e2]
open Classical in
noncomputable def fileR (v : Value) : Option (DataW Unit × List MemPlace) := if h : ∃ f, v = fiV f then some (fiD (Classical.choose h), []) else none
theorem fileR_of (f : Fi) : fileR (fiV f) = some (fiD f, []) := by
  unfold fileR
  have h : ∃ g, fiV f = fiV g := ⟨f, rfl⟩
  rw [dif_pos h, fiV_inj (Classical.choose_spec h).symm]
theorem fileR_inv {v : Value} {f : Fi} {ps : List MemPlace} (h : fileR v = some (fiD f, ps)) : v = fiV f := by
  unfold fileR at h
  by_cases hx : ∃ g, v = fiV g
  · rw [dif_pos hx] at h
    injection h with h
    injection h with h1 _
    rw [← fiD_inj h1]
    exact Classical.choose_spec hx
  · rw [dif_neg hx] at h
    cases h
def dOf (fs : Fs) : DataW Unit := .map (fs.map fun p => (ky p.1, fiD p.2))
theorem before_eq : ∀ (x y : List UInt8), bytesBefore x y = decide (x < y)
  | [], [] => by simp [bytesBefore]
  | [], b :: y => by simp [bytesBefore]
  | a :: x, [] => by simp [bytesBefore]
  | a :: x, b :: y => by
    rw [bytesBefore, before_eq x y]
    rw [Bool.eq_iff_iff]
    simp only [Bool.or_eq_true, decide_eq_true_eq, Bool.and_eq_true, beq_iff_eq, List.cons_lt_cons_iff]
theorem same_key (a b : List UInt8) : (ky a).sameKey (ky b) = decide (a = b) := by
  show (a == b) = _
  rw [Bool.eq_iff_iff]; simp
theorem filter_key (fs : Fs) (n : Nm) : ((fs.map fun p => (ky p.1, fiD p.2)).filter fun p => !p.1.sameKey (ky n)) = (fdel fs n).map fun p => (ky p.1, fiD p.2) := by
  induction fs with
  | nil => rfl
  | cons p r ih =>
    obtain ⟨m, g⟩ := p
    rw [List.map_cons, List.filter_cons, same_key, ih]
    show _ = (if m = n then fdel r n else (m, g) :: fdel r n).map _
    by_cases h : m = n
    · rw [if_pos h, decide_eq_true h]; rfl
    · rw [if_neg h, decide_eq_false h]; rfl
theorem dOf_del (fs : Fs) (n : Nm) : (dOf fs).del (ky n) = dOf (fdel fs n) := by
  unfold dOf
  show DataW.map _ = _
  rw [filter_key]
theorem insert_map (r : Fs) (n : Nm) (f : Fi) : ∀ (l : Fs), l = r → (∀ p ∈ l, p.1 ≠ n) → DataW.insert (ky n, fiD f) (l.map fun p => (ky p.1, fiD p.2)) = (fput l n f).map fun p => (ky p.1, fiD p.2) := by
  intro l hl hne
  clear hl
  induction l with
  | nil => rfl
  | cons p l ih =>
    obtain ⟨m, g⟩ := p
    rw [List.map_cons, DataW.insert]
    have hm : m ≠ n := hne _ (List.mem_cons_self ..)
    unfold fput
    rw [if_neg hm]
    have hb : (ky n).before (ky m) = decide (n < m) := before_eq n m
    show (if (ky n).before (ky m) = true then _ else _) = _
    rw [hb]
    by_cases h : n < m
    · rw [if_pos (decide_eq_true h), if_pos h]; rfl
    · rw [if_neg (by simpa using h), if_neg h, List.map_cons, ih fun q hq => hne q (List.mem_cons_of_mem _ hq)]
theorem put_del {fs : Fs} (h : Srt fs) (n : Nm) (f : Fi) : fput (fdel fs n) n f = fput fs n f := by
  induction fs with
  | nil => rfl
  | cons p r ih =>
    obtain ⟨m, g⟩ := p
    have h2 := (List.pairwise_cons.1 h).2
    unfold fdel
    by_cases e : m = n
    · rw [if_pos e]
      have hno : fdel r n = r := by
        have : ∀ l : Fs, (∀ q ∈ l, q.1 ≠ n) → fdel l n = l := fun l hl => by
          induction l with
          | nil => rfl
          | cons q l ih2 =>
            obtain ⟨a, b⟩ := q
            unfold fdel
            rw [if_neg (hl _ (List.mem_cons_self ..)), ih2 fun x hx => hl x (List.mem_cons_of_mem _ hx)]
        refine this r fun q hq e2 => ?_
        have := (List.pairwise_cons.1 h).1 q hq
        rw [e2, e] at this
        exact List.lt_irrefl _ this
      rw [hno]
      conv => rhs; unfold fput
      rw [if_pos e]
      cases r with
      | nil => rfl
      | cons q l =>
        obtain ⟨a, b⟩ := q
        have h3 := (List.pairwise_cons.1 h).1 (a, b) (List.mem_cons_self ..)
        rw [e] at h3
        unfold fput
        rw [if_neg (fun e2 => by rw [e2] at h3; exact List.lt_irrefl _ h3), if_pos h3]
    · rw [if_neg e]
      conv => lhs; unfold fput
      conv => rhs; unfold fput
      rw [if_neg e, if_neg e]
      by_cases e2 : n < m
      · rw [if_pos e2, if_pos e2]
        have hno : fdel r n = r := by
          have : ∀ l : Fs, (∀ q ∈ l, q.1 ≠ n) → fdel l n = l := fun l hl => by
            induction l with
            | nil => rfl
            | cons q l ih2 =>
              obtain ⟨a, b⟩ := q
              unfold fdel
              rw [if_neg (hl _ (List.mem_cons_self ..)), ih2 fun x hx => hl x (List.mem_cons_of_mem _ hx)]
          refine this r fun q hq e3 => ?_
          have := (List.pairwise_cons.1 h).1 q hq
          rw [e3] at this
          exact List.lt_irrefl _ (List.lt_trans e2 this)
        rw [hno]
      · rw [if_neg e2, if_neg e2, ih h2]
theorem dOf_put {fs : Fs} (h : Srt fs) (n : Nm) (f : Fi) : (dOf fs).put (ky n) (fiD f) = dOf (fput fs n f) := by
  unfold dOf
  show DataW.map (DataW.insert _ _) = _
  rw [filter_key, insert_map (fdel fs n) n f _ rfl, put_del h]
  intro p hp e
  have := fnd_del fs n n
  rw [if_pos rfl] at this
  have h2 := fnd_some_iff.2 (List.mem_map_of_mem hp : p.1 ∈ (fdel fs n).map (·.1))
  rw [e, this] at h2
  cases h2
theorem dOf_has (fs : Fs) (n : Nm) : Maps.has (dOf fs) (ky n) = (fnd fs n).isSome := by
  unfold dOf
  rw [Maps.has_eq]
  induction fs with
  | nil => rfl
  | cons p r ih =>
    obtain ⟨m, g⟩ := p
    rw [List.map_cons, List.any_cons, same_key, ih]
    show _ = (if m = n then some g else fnd r n).isSome
    by_cases h : m = n
    · rw [if_pos h]; simp [h]
    · rw [if_neg h]; simp [h]
theorem dOf_at (fs : Fs) (n : Nm) : (dOf fs).atKey (ky n) (fiD Fi.z) = fiD ((fnd fs n).getD Fi.z) := by
  unfold dOf DataW.atKey
  simp only
  induction fs with
  | nil => rfl
  | cons p r ih =>
    obtain ⟨m, g⟩ := p
    rw [List.map_cons, List.find?_cons, same_key]
    show _ = fiD ((if m = n then some g else fnd r n).getD Fi.z)
    by_cases h : m = n
    · rw [if_pos h]; simp [h]
    · rw [if_neg h]; simp only [h, decide_false]; exact ih

def FmAt (P : Program) (k : TypeId) (w : World) (b : Nat) (fs : Fs) : Prop := w.ownsMap P k fileR b fs.length (dOf fs)
structure FmTy (P : Program) (t k e : TypeId) : Prop where
  map : P.underlying t = some (.map k e)
  key : P.underlying k = some .string
  zero : ∀ w, (zeroValue e).run P w = .ok (fiV Fi.z) w
section
variable {P : Program} {t k e : TypeId} {w w' : World} {b n : Nat} {fs : Fs}
theorem owns_size {R : Value → Option (DataW Unit × List MemPlace)} {D : DataW Unit} (h : w.ownsMap P k R b n D) {m : Nat} (hm : Maps.size D ≤ m) : w.ownsMap P k R b m D := by
  obtain ⟨es, clock, hb, F, _, rfl⟩ := h
  refine ⟨es, clock, hb, F, ?_, rfl⟩
  rw [Maps.size_eq] at hm
  exact Nat.le_trans (Nat.le_of_eq (length_read es).symm) hm
theorem FmAt.lt (h : FmAt P k w b fs) : b < w.heap.size := World.ownsMap.lt h
theorem FmAt.block (h : FmAt P k w b fs) (hb : w'.heap[b]? = w.heap[b]?) : FmAt P k w' b fs := by
  obtain ⟨es, clock, h1, h2, h3, h4⟩ := h
  exact ⟨es, clock, hb.trans h1, h2, h3, h4⟩
theorem FmAt.below (h : FmAt P k w b fs) (hb : Below w.heap.size w w') : FmAt P k w' b fs := h.block (hb.block b h.lt)
theorem FmAt.is_map (h : FmAt P k w b fs) : ∃ es clock, w.heap[b]? = some (.map es clock) := by
  obtain ⟨es, clock, h1, _⟩ := h
  exact ⟨es, clock, h1⟩
theorem FmAt.fr {S : Nat → Nat → Prop} (h : FmAt P k w b fs) (hf : Fr S w w') : FmAt P k w' b fs := by
  refine h.block ?_
  rcases hf.blk b h.lt with h1 | ⟨c, c', e', fr, h1, _⟩
  · exact h1
  · obtain ⟨es, clock, h2⟩ := h.is_map
    rw [h2] at h1
    cases h1
theorem FmAt.set (h : FmAt P k w b fs) (k' i : Nat) (u : Value) : FmAt P k (w.setCell ⟨k', i, none⟩ u) b fs := h.fr ((Fr.refl (fun _ _ => True) w).setCell (fun _ => trivial) u)
theorem FmAt.made (w : World) (P : Program) (k : TypeId) : FmAt P k (w.alloc (.map #[] 0)) w.heap.size [] := World.ownsMap_made w P k fileR
theorem FmAt.look (h : FmAt P k w b fs) (T : FmTy P t k e) (l : List UInt8) (hl : l.length ≤ maxLen) : (Instr.lookup t (.map (some b)) (.string (bs l)) false).run P w = .ok (fiV ((fnd fs l).getD Fi.z)) w := by
  obtain ⟨v, ps, hr, hv⟩ := World.ownsMap.lookup h (Maps.string_keyed T.key) T.map (T.zero w) (fileR_of Fi.z) (key_of T.key l hl)
  rw [dOf_at] at hv
  rw [← fileR_inv hv]
  exact hr
theorem FmAt.look_ok (h : FmAt P k w b fs) (T : FmTy P t k e) (l : List UInt8) (hl : l.length ≤ maxLen) : (Instr.lookup t (.map (some b)) (.string (bs l)) true).run P w = .ok (.tuple #[fiV ((fnd fs l).getD Fi.z), .bool (fnd fs l).isSome]) w := by
  obtain ⟨v, ps, hr, hv⟩ := World.ownsMap.look_ok h (Maps.string_keyed T.key) T.map (T.zero w) (fileR_of Fi.z) (key_of T.key l hl)
  rw [dOf_at] at hv
  rw [← fileR_inv hv, ← dOf_has]
  exact hr
end
section
variable {P : Program} (w : World) {ops : Array Oper} {rest : List Oper} {o : Oper} {a : Act} {Q : Exit → Act → World → Prop}
end
end Go.Bar.Wal

namespace Go.Bar.Wal
open Go.RowKit Go.Bar Go.Proofs Go.Conc

structure Hd where
  D : Nat
  U : Nat
  C : Nat
  M : Nat
def qV (q : List (Int × Bool)) : Array Value := (q.map fun x => Value.agg #[.int .i64 x.1, .bool x.2]).toArray
theorem qV_size (q : List (Int × Bool)) : (qV q).size = q.length := by unfold qV; simp
theorem qV_tail (a : Int) (b : Bool) (q : List (Int × Bool)) : (qV ((a, b) :: q)).extract 1 (qV ((a, b) :: q)).size = qV q := by
  unfold qV; simp [List.take_of_length_le]
theorem qV_head (a : Int) (b : Bool) (q : List (Int × Bool)) : (qV ((a, b) :: q)).getD 0 undef = .agg #[.int .i64 a, .bool b] := by
  unfold qV; simp
theorem qV_push (a : Int) (b : Bool) (q : List (Int × Bool)) : (qV q).push (.agg #[.int .i64 a, .bool b]) = qV (q ++ [(a, b)]) := by
  unfold qV; simp
def Rng (x : Int × Bool) : Prop := 0 ≤ x.1 ∧ x.1 ≤ 9223372036854775807
def DTs (T : TypeId) : Prop := T = 50 ∨ T = 117 ∨ T = 132
def DT0 (T : TypeId) : Prop := T = 50 ∨ T = 117
theorem dt0 : ∀ T, DT0 T → DTs T := fun _ h => h.elim .inl fun h => .inr (.inl h)
def NDk (T : TypeId) : Prop := T ≠ 50 ∧ T ≠ 117
structure DkC (w : World) (h : Hd) (fs : Fs) (room used : Int) (q : List (Int × Bool)) (a : Int) (b arm : Bool) : Prop where
  dk : Blk w h.D 50 #[.pointer (some ⟨h.U, 0, none⟩), .map (some h.M), .int .i64 room, .int .i64 used]
  fu : Blk w h.U 117 #[.chan (some h.C), .int .i64 a, .bool b, .bool arm]
  ch : ∃ s r, w.heap[h.C]? = some (.chan 16 (qV q) false s r false)
  mp : FmAt Tryz.prog 9 w h.M fs
section
variable {w w' : World} {h : Hd} {fs : Fs} {room used : Int} {q : List (Int × Bool)} {a : Int} {b arm : Bool}
theorem DkC.keep (k : DkC w h fs room used q a b arm) (h1 : w'.heap[h.D]? = w.heap[h.D]?) (h2 : w'.heap[h.U]? = w.heap[h.U]?) (h3 : w'.heap[h.C]? = w.heap[h.C]?) (h4 : w'.heap[h.M]? = w.heap[h.M]?) : DkC w' h fs room used q a b arm :=
  ⟨h1.trans k.dk, h2.trans k.fu, (by obtain ⟨s, r, e⟩ := k.ch; exact ⟨s, r, h3.trans e⟩), k.mp.block h4⟩
theorem DkC.ltC (k : DkC w h fs room used q a b arm) : h.C < w.heap.size := by obtain ⟨s, r, e⟩ := k.ch; exact (Array.getElem?_eq_some_iff.1 e).1
theorem DkC.below (k : DkC w h fs room used q a b arm) (hb : Below w.heap.size w w') : DkC w' h fs room used q a b arm :=
  k.keep (hb.block _ k.dk.lt) (hb.block _ k.fu.lt) (hb.block _ k.ltC) (hb.block _ k.mp.lt)
theorem DkC.nDU (k : DkC w h fs room used q a b arm) : h.D ≠ h.U := fun e => by
  have h1 := k.dk
  have h2 := k.fu
  rw [e] at h1
  unfold Blk at h1 h2
  rw [h1] at h2
  injection h2 with h2
  injection h2 with _ h2 _
  exact absurd h2 (by decide)
theorem DkC.nDC (k : DkC w h fs room used q a b arm) : h.D ≠ h.C := fun e => by
  have h1 := k.dk
  obtain ⟨s, r, h2⟩ := k.ch
  unfold Blk at h1
  rw [e, h2] at h1
  cases h1
theorem DkC.nUC (k : DkC w h fs room used q a b arm) : h.U ≠ h.C := fun e => by
  have h1 := k.fu
  obtain ⟨s, r, h2⟩ := k.ch
  unfold Blk at h1
  rw [e, h2] at h1
  cases h1
theorem DkC.nMC (k : DkC w h fs room used q a b arm) : h.M ≠ h.C := fun e => by
  obtain ⟨es, cl, h1⟩ := k.mp.is_map
  obtain ⟨s, r, h2⟩ := k.ch
  rw [e, h2] at h1
  cases h1
theorem DkC.nMD (k : DkC w h fs room used q a b arm) : h.M ≠ h.D := fun e => by
  obtain ⟨es, cl, h1⟩ := k.mp.is_map
  have h2 := k.dk
  unfold Blk at h2
  rw [e, h2] at h1
  cases h1
theorem DkC.nMU (k : DkC w h fs room used q a b arm) : h.M ≠ h.U := fun e => by
  obtain ⟨es, cl, h1⟩ := k.mp.is_map
  have h2 := k.fu
  unfold Blk at h2
  rw [e, h2] at h1
  cases h1
theorem DkC.other (k : DkC w h fs room used q a b arm) {L : Nat} {T : TypeId} {cur : Array Value} (hb : Blk w L T cur) (hT : NDk T) (i : Nat) (u : Value) : DkC (w.setCell ⟨L, i, none⟩ u) h fs room used q a b arm := by
  have n1 : h.D ≠ L := fun e => by
    have h1 := k.dk
    unfold Blk at h1 hb
    rw [e, hb] at h1
    injection h1 with h1
    injection h1 with _ h1 _
    exact hT.1 h1
  have n2 : h.U ≠ L := fun e => by
    have h1 := k.fu
    unfold Blk at h1 hb
    rw [e, hb] at h1
    injection h1 with h1
    injection h1 with _ h1 _
    exact hT.2 h1
  have n3 : h.C ≠ L := fun e => by
    obtain ⟨s, r, h2⟩ := k.ch
    unfold Blk at hb
    rw [e, hb] at h2
    cases h2
  have n4 : h.M ≠ L := fun e => by
    obtain ⟨es, cl, h1⟩ := k.mp.is_map
    unfold Blk at hb
    rw [e, hb] at h1
    cases h1
  exact k.keep (Below.heap_setCell w ⟨L, i, none⟩ u _ n1) (Below.heap_setCell w ⟨L, i, none⟩ u _ n2) (Below.heap_setCell w ⟨L, i, none⟩ u _ n3) (Below.heap_setCell w ⟨L, i, none⟩ u _ n4)
theorem DkC.ap (k : DkC w h fs room used q a b arm) {e : TypeId} {sz n : Nat} {v : Value} {xs : List Value} (hb : Buf w e sz v n xs) (ha : Ap w w' sz v) (hT : NDk e) : DkC w' h fs room used q a b arm := by
  refine ⟨k.dk.ap hb ha (fun c => hT.1 c), k.fu.ap hb ha (fun c => hT.2 c), ?_, k.mp.fr (Fr.of_ap (S := fun _ _ => True) ha fun _ _ _ => trivial)⟩
  obtain ⟨s, r, hc⟩ := k.ch
  refine ⟨s, r, ?_⟩
  rcases ha.block _ k.ltC with h1 | ⟨o, n', c, cur1, cur', e1, fr, rfl, hw, _⟩
  · exact h1.trans hc
  · rw [hc] at hw; cases hw
theorem DkC.setU (k : DkC w h fs room used q a b arm) (i : Nat) (u : Value) {a' : Int} {b' arm' : Bool} (hu : (#[Value.chan (some h.C), .int .i64 a, .bool b, .bool arm].setIfInBounds i u) = #[.chan (some h.C), .int .i64 a', .bool b', .bool arm']) : DkC (w.setCell ⟨h.U, i, none⟩ u) h fs room used q a' b' arm' := by
  refine ⟨k.dk.other k.nDU i u, ?_, ?_, k.mp.set h.U i u⟩
  · have := k.fu.set i u; rwa [hu] at this
  · obtain ⟨s, r, e⟩ := k.ch
    exact ⟨s, r, (Below.heap_setCell w ⟨h.U, i, none⟩ u _ k.nUC.symm).trans e⟩
theorem DkC.setD (k : DkC w h fs room used q a b arm) (n : Int) : DkC (w.setCell ⟨h.D, 3, none⟩ (.int .i64 n)) h fs room n q a b arm := by
  refine ⟨k.dk.set 3 _, k.fu.other k.nDU.symm 3 _, ?_, k.mp.set h.D 3 _⟩
  obtain ⟨s, r, e⟩ := k.ch
  exact ⟨s, r, (Below.heap_setCell w ⟨h.D, 3, none⟩ _ _ k.nDC.symm).trans e⟩
theorem DkC.chan (k : DkC w h fs room used q a b arm) {q' : List (Int × Bool)} (s r : Nat) : DkC (w.setChan h.C 16 (qV q') false s r false) h fs room used q' a b arm := by
  have g : ∀ j, j ≠ h.C → (w.setChan h.C 16 (qV q') false s r false).heap[j]? = w.heap[j]? := fun j hj => by
    show (w.heap.setIfInBounds h.C _)[j]? = _
    rw [Array.getElem?_setIfInBounds_ne (Ne.symm hj)]
  exact ⟨(g _ k.nDC).trans k.dk, (g _ k.nUC).trans k.fu, ⟨s, r, heap_setChan w h.C 16 (qV q') false s r false k.ltC⟩, k.mp.block (g _ k.nMC)⟩
theorem DkC.files (k : DkC w h fs room used q a b arm) {fs' : Fs} (hm : FmAt Tryz.prog 9 w' h.M fs') (hg : w.grownBy w' (some h.M)) : DkC w' h fs' room used q a b arm := by
  have g : ∀ j, j < w.heap.size → j ≠ h.M → w'.heap[j]? = w.heap[j]? := fun j hj hn => hg.block j hj (fun e => by injection e with e; exact hn e)
  refine ⟨(g _ k.dk.lt k.nMD.symm).trans k.dk, (g _ k.fu.lt k.nMU.symm).trans k.fu, ?_, hm⟩
  obtain ⟨s, r, e⟩ := k.ch
  exact ⟨s, r, (g _ k.ltC k.nMC.symm).trans e⟩
end
structure DkAt (w : World) (h : Hd) (d : Ds) : Prop where
  c : ∃ a b, DkC w h d.fs d.room d.used d.fz.q a b d.fz.now.isSome ∧ ∀ x, d.fz.now = some x → x = (a, b)
  rq : ∀ x ∈ d.fz.q, Rng x
  rn : ∀ x, d.fz.now = some x → Rng x
structure Hd.Hi (h : Hd) (B : Nat) : Prop where
  d : B ≤ h.D
  u : B ≤ h.U
  c : B ≤ h.C
  m : B ≤ h.M
  m2 : h.M ≤ B + 2
structure Off (Ts : TypeId → Prop) (B : Nat) (w w' : World) : Prop where
  kc : Kc Ts w w'
  bel : Below B w w'
  mp : ∀ (k : Nat) es cl, B + 2 < k → w.heap[k]? = some (.map es cl) → w'.heap[k]? = some (.map es cl)
section
variable {Ts : TypeId → Prop} {B : Nat} {w w' w'' : World} {h : Hd} {d : Ds}
theorem Off.refl (Ts : TypeId → Prop) (B : Nat) (w : World) : Off Ts B w w := ⟨Kc.refl Ts w, Below.refl B w, fun _ _ _ _ h => h⟩
theorem Off.trans (h1 : Off Ts B w w') (h2 : Off Ts B w' w'') : Off Ts B w w'' := ⟨h1.kc.trans h2.kc, h1.bel.trans h2.bel, fun k es cl hk h => h2.mp k es cl hk (h1.mp k es cl hk h)⟩
theorem Off.size (h1 : Off Ts B w w') : w.heap.size ≤ w'.heap.size := h1.kc.size
theorem Off.of_below (hb : Below w.heap.size w w') (hB : B ≤ w.heap.size) : Off Ts B w w' := ⟨Kc.of_below hb, hb.mono hB, fun k _ _ _ h => (hb.block k (Array.getElem?_eq_some_iff.1 h).1).trans h⟩
theorem Off.wide {Us : TypeId → Prop} (h1 : Off Ts B w w') (hs : ∀ T, Ts T → Us T) : Off Us B w w' := ⟨h1.kc.wide hs, h1.bel, h1.mp⟩
theorem Off.set {M : Nat} {T : TypeId} {cur : Array Value} (hb : Blk w M T cur) (hT : Ts T) (hB : B ≤ M) (i : Nat) (u : Value) : Off Ts B w (w.setCell ⟨M, i, none⟩ u) := ⟨Kc.of_set hb hT i u, (Below.refl B w).setCell hB u, fun k es cl _ h => by
  have hne : k ≠ M := fun e => by unfold Blk at hb; rw [e, hb] at h; cases h
  exact (Below.heap_setCell w ⟨M, i, none⟩ u k hne).trans h⟩
theorem Off.chan {c : Nat} {cap : Nat} {buf : Array Value} {cl : Bool} {s r : Nat} {tm : Bool} (hc : w.heap[c]? = some (.chan cap buf cl s r tm)) (hB : B ≤ c) (cap' : Nat) (buf' : Array Value) (cl' : Bool) (s' r' : Nat) (tm' : Bool) : Off Ts B w (w.setChan c cap' buf' cl' s' r' tm') :=
  ⟨Kc.of_chan hc .., below_setChan (Below.refl B w) hB .., fun k es cl _ h => by
    have hne : k ≠ c := fun e => by rw [e, hc] at h; cases h
    show (w.heap.setIfInBounds c _)[k]? = _
    rw [Array.getElem?_setIfInBounds_ne (Ne.symm hne)]
    exact h⟩
theorem Off.map {b : Nat} (hb : ∃ es clock, w.heap[b]? = some (.map es clock)) (hg : w.grownBy w' (some b)) (hB : B ≤ b) (hs : B ≤ w.heap.size) (hm : b ≤ B + 2) : Off Ts B w w' :=
  ⟨Kc.of_map hb hg, ⟨hg.os, hg.tape, hg.output, hg.size, fun k hk => hg.block k (Nat.lt_of_lt_of_le hk hs) (fun e => by injection e with e; omega)⟩, fun k es cl hk h => (hg.block k (Array.getElem?_eq_some_iff.1 h).1 (fun e => by injection e with e; omega)).trans h⟩
theorem DkAt.below (k : DkAt w h d) (hb : Below w.heap.size w w') : DkAt w' h d := by
  obtain ⟨⟨a, b, k1, k2⟩, k3, k4⟩ := k
  exact ⟨⟨a, b, k1.below hb, k2⟩, k3, k4⟩
theorem DkAt.other (k : DkAt w h d) {L : Nat} {T : TypeId} {cur : Array Value} (hb : Blk w L T cur) (hT : NDk T) (i : Nat) (u : Value) : DkAt (w.setCell ⟨L, i, none⟩ u) h d := by
  obtain ⟨⟨a, b, k1, k2⟩, k3, k4⟩ := k
  exact ⟨⟨a, b, k1.other hb hT i u, k2⟩, k3, k4⟩
theorem DkAt.ap (k : DkAt w h d) {e : TypeId} {sz n : Nat} {v : Value} {xs : List Value} (hb : Buf w e sz v n xs) (ha : Ap w w' sz v) (hT : NDk e) : DkAt w' h d := by
  obtain ⟨⟨a, b, k1, k2⟩, k3, k4⟩ := k
  exact ⟨⟨a, b, k1.ap hb ha hT, k2⟩, k3, k4⟩
end
structure DkT (Ts : TypeId → Prop) (B : Nat) (w : World) (h : Hd) (d : Ds) (v : Value) (en : Ending) (w' : World) : Prop where
  ret : en = .returned v
  at_ : DkAt w' h d
  off : Off Ts B w w'
abbrev DkTo := DkT DTs
theorem DkT.wide {Ts Us : TypeId → Prop} {B : Nat} {w w' : World} {h : Hd} {d : Ds} {v : Value} {en : Ending} (k : DkT Ts B w h d v en w') (hs : ∀ T, Ts T → Us T) : DkT Us B w h d v en w' := ⟨k.ret, k.at_, k.off.wide hs⟩
end Go.Bar.Wal
