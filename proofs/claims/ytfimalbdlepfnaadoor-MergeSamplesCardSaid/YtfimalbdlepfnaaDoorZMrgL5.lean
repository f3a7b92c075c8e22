/-
  Any lists of samples by rising times: all, by rising times, of one time the first list's. No condition.
-/
import Derived.Test.YtfimalbdlepfnaaDoorZMrgAE
import Derived.Test.YtfimalbdlepfnaaDoorTie
import Derived.Test.YtfimalbdlepfnaaDoorCards

namespace Go.Bar.Mrg
open Go.RowKit Go.Bar Go.Bar.Xor Go.Bar.Lab

def smO (z : On3) : Sm := (z.t, z.v)
/-- a list of samples of a law's argument -/
def lst15 (l : List On3) : List Sm := putAll [] ((l.take 15).map smO)
theorem lst15_len (l : List On3) : (lst15 l).length ≤ 15 := by
  have := Go.Proofs.YtfimalbdlepfnaaDoor.putAll_len ((l.take 15).map smO) []
  rw [List.length_map, List.length_take] at this
  unfold lst15
  simp at this ⊢
  omega
theorem flat15_len : ∀ ls : List (List On3), (ls.map lst15).flatten.length ≤ 15 * ls.length
  | [] => Nat.le_refl _
  | l :: ls => by
    have h1 := flat15_len ls
    have h2 := lst15_len l
    rw [List.map_cons, List.flatten_cons, List.length_append, List.length_cons]
    omega
end Go.Bar.Mrg
namespace Go.Proofs.YtfimalbdlepfnaaDoor
open Go.RowKit Go.Bar Go.Bar.Leb Go.Bar.Lab Go.Bar.Xor Go.Bar.Mrg Go.ChangeShapes Go.WideShapes Go.ChangeAt

/-- the lists so far: a buffer of slices -/
structure Svs (W w : World) (v : Value) (ls : List (List On3)) (vs : List Value) : Prop where
  n : NBuf W w 24 1 v ls.length vs
  at_ : vs.length = ls.length ∧ ∀ (i : Nat) (l : List On3), ls[i]? = some l → ∃ A c, vs[i]? = some (.slice A (lst15 l).length c) ∧ NBuf W w 31 2 (.slice A (lst15 l).length c) (lst15 l).length (smc (lst15 l))
theorem Svs.below {W w w' : World} {v : Value} {ls : List (List On3)} {vs : List Value} (h : Svs W w v ls vs) (hb : Below w.heap.size w w') : Svs W w' v ls vs := by
  obtain ⟨h1, h3, h4⟩ := h
  refine ⟨h1.then_below hb, h3, fun i l hl => ?_⟩
  obtain ⟨A, c, a1, a4⟩ := h4 i l hl
  exact ⟨A, c, a1, a4.then_below hb⟩
theorem Svs.snoc {W wa w2 : World} {v v2 : Value} {ls : List (List On3)} {l : List On3} {vs : List Value} {A : Option Addr} {c : Nat} (h : Svs W wa v ls vs) (ht : NBuf W wa 31 2 (.slice A (lst15 l).length c) (lst15 l).length (smc (lst15 l)))
    (hn : NBuf W w2 24 1 v2 (ls.length + 1) (vs ++ [.slice A (lst15 l).length c])) (ha : Ap wa w2 1 v) : Svs W w2 v2 (ls ++ [l]) (vs ++ [.slice A (lst15 l).length c]) ∧ Ke (fun T => T = 24) wa w2 := by
  obtain ⟨h1, h3, h4⟩ := h
  have hk : Ke (fun T => T = 24) wa w2 := Ke.of_ap h1.buf ha rfl
  have hb := hn.below
  refine ⟨⟨by rw [List.length_append]; exact hn, by simp [h3], fun i y hy => ?_⟩, hk⟩
  rcases Nat.lt_or_ge i ls.length with hi | hi
  · rw [List.getElem?_append_left hi] at hy
    obtain ⟨A, c, a1, a4⟩ := h4 i y hy
    exact ⟨A, c, by rw [List.getElem?_append_left (by omega)]; exact a1, nbuf_ke a4 hk hb (by decide)⟩
  · have hi2 : i = ls.length := by have := (List.getElem?_eq_some_iff.1 hy).1; simp at this; omega
    subst hi2
    rw [List.getElem?_append_right (Nat.le_refl _), Nat.sub_self] at hy
    injection hy with hy
    subst hy
    exact ⟨A, c, by rw [← h3, List.getElem?_append_right (Nat.le_refl _), Nat.sub_self]; rfl, nbuf_ke ht hk hb (by decide)⟩
theorem Svs.call {W w : World} {v : Value} {ls : List (List On3)} {vs : List Value} (h : Svs W w v ls vs) (hl : ls.length ≤ 5) : Calls Tryd.prog 10 #[v] w (RetSms w (smp (ls.map lst15))) := by
  obtain ⟨h1, h3, h4⟩ := h
  have hf := flat15_len ls
  refine mSamples_any v (ls.map lst15) w ⟨vs, by rw [List.length_map]; exact h3, by rw [List.length_map]; exact h1.slice, fun i x hx => ?_⟩ (by rw [List.length_map]; omega) (by omega)
  rw [List.getElem?_map] at hx
  rcases hi : ls[i]? with _ | l
  · rw [hi] at hx; cases hx
  · rw [hi] at hx
    injection hx with hx
    subst hx
    obtain ⟨A, c, a1, a4⟩ := h4 i l hi
    exact ⟨A, c, a1, a4.slice⟩
def FinPt (w : World) (R : List Sm) (vs : Nat → Value) (w' : World) : Prop := NBuf w w' 31 2 (vs 18) R.length (smc R)

set_option maxHeartbeats 16000000 in
set_option maxRecDepth 10000 in
theorem mergeSamples_walk0 (v : Value) (ls : List (List On3)) (W : World) (h : LsArg W v ls) (_ : True) :
    Calls Tryd.prog 3 #[v] W (RetBelow W (.bool true)) := by
  obtain ⟨vs0, hs, hl0, hat⟩ := h
  obtain ⟨A, c, rfl, hlc, hcm⟩ := SlAt.shape hs
  unfold maxLen at hcm
  obtain ⟨n, hn⟩ : ∃ n, n = ls.length := ⟨_, rfl⟩
  rw [← hn] at hs hlc ⊢
  have HS := Lib.hid hs
  have HN := Lib.hid hn
  have HAT := Lib.hid hat
  have hT0 : Svs W (W.alloc (.cells #[] 24)) (.slice (some ⟨W.heap.size, 0, none⟩) 0 0) [] [] := ⟨NBuf.lit0 (Below.refl W.heap.size W) 24 1, rfl, fun i t ht => by simp at ht⟩
  have hb1 : Below W.heap.size W (W.alloc (.cells #[] 24)) := below_alloc1 _ _
  have hn1 := NBuf.lit0 hb1 31 2
  have hW1 : (W.alloc (.cells #[] 24)).heap.size = W.heap.size + 1 := by simp
  rw [hW1] at hn1
  have HT0 := Lib.hid (hT0.below (below_alloc1 _ (.cells #[] 31)))
  have HW0 := Lib.hid hn1
  clear hs hn hat hl0 hT0 hb1 hn1 hW1
  go_enter Tryd.func3, Tryd.ntmps3
  go_wp2_with fail
  go_loopw [3, 4, 5] (fun d g i wr => ∃ (k : Nat) (O : List Sm) (vs : List Value), k ≤ n ∧ k ≤ 5 ∧ i = .int .i64 k ∧ Hid (Svs W wr d (ls.take k) vs) ∧ Hid (NBuf W wr 31 2 g O.length (smc O)) ∧ Hid (O = smp ((ls.take k).map lst15))) (fun _ _ i _ => n - (intOf i).toNat)
  case atStart => exact ⟨0, [], [], Nat.zero_le _, Nat.zero_le _, rfl, HT0, HW0, Lib.hid rfl⟩
  case round =>
    obtain ⟨k, O, vs, hk, hk5, rfl, HTV, HNB, HRR⟩ := hrel
    obtain ⟨dA, dc, rfl, hdc⟩ := HTV.out.n.buf.shape
    obtain ⟨fA, fc, rfl, hfc⟩ := HNB.out.buf.shape
    have hbw := HNB.out.below
    have HLK := Lib.hid (show (ls.take k).length = k by rw [List.length_take, ← HN.out]; omega)
    rw [HLK.out] at hdc ⊢
    obtain ⟨nO, hnO⟩ : ∃ nO, nO = O.length := ⟨_, rfl⟩
    have HNO := Lib.hid hnO
    rw [← hnO] at HNB hfc ⊢
    clear HT0 HW0 hnO
    by_cases hgo : k < n ∧ k < 5
    · obtain ⟨hgo, hg4⟩ := hgo
      obtain ⟨l, hx⟩ : ∃ l, ls[k]? = some l := ⟨_, List.getElem?_eq_getElem (by have := HN.out; omega)⟩
      obtain ⟨u, hu, hul⟩ := HAT.out k l hx
      obtain ⟨xb, xo, rfl, hxb, hxc⟩ := SlAt.cells (HS.out.below hbw) (by omega)
      obtain ⟨uA, uc, rfl, huc, hum⟩ := hul.1.shape
      unfold maxLen at hum
      have HX0 := Lib.hid (fun (w' : World) (hb : Below wr.heap.size wr w') => show w'.cell? ⟨xb, xo + k, none⟩ = some (.slice uA l.length uc) by
        obtain ⟨b', o', he, _, hc'⟩ := SlAt.cells (HS.out.below (below_trans hbw hb)) (by omega)
        injection he with he
        injection he with e1 e2 _
        subst e1; subst e2
        exact hc' _ _ hu)
      have hk50 : (k : Int) < 5 := by omega
      have htk : ls.take (k + 1) = ls.take k ++ [l] := by rw [List.take_add_one, hx]; rfl
      have HTK := Lib.hid htk
      have HUL := Lib.hid hul.1
      have hL0 := NBuf.lit0 (Below.refl wr.heap.size wr) 31 2
      have HL0 := Lib.hid hL0
      have x0 := HX0.out _ (below_alloc1 wr (.cells #[] 31))
      clear hx hu hul hxc htk hL0
      go_upto_region 7 with fail
      obtain ⟨wo, rfl⟩ : ∃ wo : World, wo = wr := ⟨_, rfl⟩
      go_wp2_with fail
      go_loopw [6, 7] (fun d i wz => ∃ (j : Nat) (P : List Sm), j ≤ l.length ∧ j ≤ 15 ∧ i = .int .i64 j ∧ P.length ≤ j ∧ Hid (NBuf wo wz 31 2 d P.length (smc P)) ∧ Hid (P = putAll [] ((l.take j).map smO))) (fun _ i _ => l.length - (intOf i).toNat)
      case atStart => exact ⟨0, [], Nat.zero_le _, Nat.zero_le _, rfl, Nat.le_refl _, HL0, Lib.hid rfl⟩
      case round =>
        obtain ⟨j, P, hj, hj15, rfl, hPj, HJ, HPF⟩ := hrel
        obtain ⟨jA, jc, rfl, hjc⟩ := HJ.out.buf.shape
        clear HL0 x0
        by_cases hgo2 : j < l.length ∧ j < 15
        · obtain ⟨hg1, hg2⟩ := hgo2
          obtain ⟨z, hz⟩ : ∃ z, l[j]? = some z := ⟨_, List.getElem?_eq_getElem hg1⟩
          obtain ⟨ub, uo, rfl, _⟩ := HUL.out.at_ hz
          have HZ := Lib.hid (fun (w' : World) (hb : Below W.heap.size W w') => (show w'.cell? ⟨ub, uo + j * 3 + 1, none⟩ = some (.int .i64 z.t) ∧ w'.cell? ⟨ub, uo + j * 3 + 2, none⟩ = some (.int .u64 (z.v : Nat)) by
            obtain ⟨b', o', he, _, h1, h2⟩ := (HUL.out.below hb).at_ hz
            injection he with he
            injection he with e1 e2 _
            subst e1; subst e2
            exact ⟨h1, h2⟩))
          have hps : putS P (z.t, z.v) = putAll [] ((l.take (j + 1)).map smO) := by
            rw [List.take_add_one, hz, List.map_append, putAll_append, ← HPF.out]; rfl
          have HPS := Lib.hid hps
          have hpl : (putS P (z.t, z.v)).length ≤ j + 1 := by
            have := putS_len P (z.t, z.v)
            omega
          obtain ⟨N, hN⟩ : ∃ N, N = putS P (z.t, z.v) := ⟨_, rfl⟩
          rw [← hN] at HPS hpl
          have HNN := Lib.hid hN
          have hj15' : (j : Int) < 15 := by omega
          have hj0 : (0 : Int) ≤ (j : Int) := by omega
          have hk0 : (0 : Int) ≤ (k : Int) := by omega
          have hkn : (k : Int) < (n : Int) := by omega
          have hjl : (j : Int) < (l.length : Int) := by omega
          have hbz := HJ.out.below
          have x0 := HX0.out _ hbz
          have HBJ := Lib.hid hbz
          obtain ⟨np, hnp⟩ : ∃ np, np = P.length := ⟨_, rfl⟩
          have HNP := Lib.hid hnp
          rw [← hnp] at HJ hjc ⊢
          clear hz hps hN hbz hnp
          go_upto_region 10 with fail
          have hstT : ∀ k v w w', Below w.heap.size w w' → Dv.factOf ([(4, ((fun v => v = (.slice (some ⟨ub, uo, none⟩) l.length uc)), noFact, 4)), (8, ((fun v => v = (.int .i64 z.t)), noFact, 8)), (12, ((fun v => v = (.slice (some ⟨ub, uo, none⟩) l.length uc)), noFact, 12)), (16, ((fun v => v = (.int .u64 (z.v : Nat))), noFact, 16)), (18, ((fun v => ∃ A c, v = .slice A N.length c), noFact, 18))] : List (Nat × Dv.Kp)) k v w → Dv.factOf ([(4, ((fun v => v = (.slice (some ⟨ub, uo, none⟩) l.length uc)), noFact, 4)), (8, ((fun v => v = (.int .i64 z.t)), noFact, 8)), (12, ((fun v => v = (.slice (some ⟨ub, uo, none⟩) l.length uc)), noFact, 12)), (16, ((fun v => v = (.int .u64 (z.v : Nat))), noFact, 16)), (18, ((fun v => ∃ A c, v = .slice A N.length c), noFact, 18))] : List (Nat × Dv.Kp)) k v w' := Dv.fact_st (by
            simp only [List.forall_mem_cons, List.not_mem_nil, false_imp_iff, implies_true, and_true]
            refine ⟨?_, ?_, ?_, ?_, ?_⟩
            · exact fun _ _ _ _ _ => trivial
            · exact fun _ _ _ _ _ => trivial
            · exact fun _ _ _ _ _ => trivial
            · exact fun _ _ _ _ _ => trivial
            · exact fun _ _ _ _ _ => trivial)
          have htrT : ∀ x ∈ ([(4, ((fun v => v = (.slice (some ⟨ub, uo, none⟩) l.length uc)), noFact, 4)), (8, ((fun v => v = (.int .i64 z.t)), noFact, 8)), (12, ((fun v => v = (.slice (some ⟨ub, uo, none⟩) l.length uc)), noFact, 12)), (16, ((fun v => v = (.int .u64 (z.v : Nat))), noFact, 16)), (18, ((fun v => ∃ A c, v = .slice A N.length c), noFact, 18))] : List (Nat × Dv.Kp)), (([(4, ((fun v => v = (.slice (some ⟨ub, uo, none⟩) l.length uc)), noFact, 4)), (8, ((fun v => v = (.int .i64 z.t)), noFact, 8)), (12, ((fun v => v = (.slice (some ⟨ub, uo, none⟩) l.length uc)), noFact, 12)), (16, ((fun v => v = (.int .u64 (z.v : Nat))), noFact, 16)), (18, ((fun v => ∃ A c, v = .slice A N.length c), noFact, 18))] : List (Nat × Dv.Kp)).lookup x.2.2.2).isSome = true := by
            simp only [List.forall_mem_cons, List.not_mem_nil, false_imp_iff, implies_true, and_true]
            exact ⟨by kernel_rfl, by kernel_rfl, by kernel_rfl, by kernel_rfl, by kernel_rfl⟩
          refine Dv.wp_region_two (L := ([(4, ((fun v => v = (.slice (some ⟨ub, uo, none⟩) l.length uc)), noFact, 4)), (8, ((fun v => v = (.int .i64 z.t)), noFact, 8)), (12, ((fun v => v = (.slice (some ⟨ub, uo, none⟩) l.length uc)), noFact, 12)), (16, ((fun v => v = (.int .u64 (z.v : Nat))), noFact, 16)), (18, ((fun v => ∃ A c, v = .slice A N.length c), noFact, 18))] : List (Nat × Dv.Kp))) (m := 18) (Fin := (FinPt wo N)) (by kernel_rfl) 97 (by kernel_rfl) rfl (by kernel_rfl) ?_ ?_ ?_
          · simp only [List.forall_mem_cons, List.not_mem_nil, false_imp_iff, implies_true, and_true]
            exact ⟨⟨_, rfl⟩, ⟨_, rfl⟩, ⟨_, rfl⟩, ⟨_, rfl⟩, ⟨_, none, 0, rfl⟩⟩
          · exact (fun vs vs' w' h hf => by unfold FinPt at hf ⊢; rw [← h 18 (by kernel_rfl) (by decide)]; exact hf)
          repeat (first
            | (refine Dv.Chain.step (v := ?_) (a' := ?_) rfl rfl rfl ?_ ?_ ?_
               rotate_left 2
               focus (intro w; go_simp; try with_reducible rfl)
               focus (simp only [Act.put, List.setIfInBounds_toArray, List.set_cons_succ, List.set_cons_zero]; try rfl))
            | (refine Dv.Chain.skip' (a' := ?_) rfl rfl rfl ?_ ?_
               rotate_left 1
               focus (simp only [Act.put, List.setIfInBounds_toArray, List.set_cons_succ, List.set_cons_zero]; try rfl)))
          refine Dv.XT.call (a' := ?_) _ _ rfl (by decide) hstT rfl rfl (fun wx hw hF => ?_) htrT ?_ ?_
          rotate_left 1
          focus
            have g0 := HX0.out _ (below_trans HBJ.out hw)
            go_simp; first | exact ⟨rfl, Below.refl _ _⟩ | exact Below.refl _ _
          focus (simp only [Act.put, List.setIfInBounds_toArray, List.set_cons_succ, List.set_cons_zero]; try rfl)
          repeat (first
            | (refine Dv.Chain.step (v := ?_) (a' := ?_) rfl rfl rfl ?_ ?_ ?_
               rotate_left 2
               focus (intro w; go_simp; try with_reducible rfl)
               focus (simp only [Act.put, List.setIfInBounds_toArray, List.set_cons_succ, List.set_cons_zero]; try rfl))
            | (refine Dv.Chain.skip' (a' := ?_) rfl rfl rfl ?_ ?_
               rotate_left 1
               focus (simp only [Act.put, List.setIfInBounds_toArray, List.set_cons_succ, List.set_cons_zero]; try rfl)))
          refine Dv.XT.call (a' := ?_) _ _ rfl (by decide) hstT rfl rfl (fun wx hw hF => ?_) htrT ?_ ?_
          rotate_left 1
          focus
            obtain ⟨g0, g1⟩ := HZ.out _ (below_trans hbw (below_trans HBJ.out hw))
            go_simp; first | exact ⟨rfl, Below.refl _ _⟩ | exact Below.refl _ _
          focus (simp only [Act.put, List.setIfInBounds_toArray, List.set_cons_succ, List.set_cons_zero]; try rfl)
          repeat (first
            | (refine Dv.Chain.step (v := ?_) (a' := ?_) rfl rfl rfl ?_ ?_ ?_
               rotate_left 2
               focus (intro w; go_simp; try with_reducible rfl)
               focus (simp only [Act.put, List.setIfInBounds_toArray, List.set_cons_succ, List.set_cons_zero]; try rfl))
            | (refine Dv.Chain.skip' (a' := ?_) rfl rfl rfl ?_ ?_
               rotate_left 1
               focus (simp only [Act.put, List.setIfInBounds_toArray, List.set_cons_succ, List.set_cons_zero]; try rfl)))
          refine Dv.XT.call (a' := ?_) _ _ rfl (by decide) hstT rfl rfl (fun wx hw hF => ?_) htrT ?_ ?_
          rotate_left 1
          focus
            have g0 := HX0.out _ (below_trans HBJ.out hw)
            go_simp; first | exact ⟨rfl, Below.refl _ _⟩ | exact Below.refl _ _
          focus (simp only [Act.put, List.setIfInBounds_toArray, List.set_cons_succ, List.set_cons_zero]; try rfl)
          repeat (first
            | (refine Dv.Chain.step (v := ?_) (a' := ?_) rfl rfl rfl ?_ ?_ ?_
               rotate_left 2
               focus (intro w; go_simp; try with_reducible rfl)
               focus (simp only [Act.put, List.setIfInBounds_toArray, List.set_cons_succ, List.set_cons_zero]; try rfl))
            | (refine Dv.Chain.skip' (a' := ?_) rfl rfl rfl ?_ ?_
               rotate_left 1
               focus (simp only [Act.put, List.setIfInBounds_toArray, List.set_cons_succ, List.set_cons_zero]; try rfl)))
          refine Dv.XT.call (a' := ?_) _ _ rfl (by decide) hstT rfl rfl (fun wx hw hF => ?_) htrT ?_ ?_
          rotate_left 1
          focus
            obtain ⟨g0, g1⟩ := HZ.out _ (below_trans hbw (below_trans HBJ.out hw))
            go_simp; first | exact ⟨rfl, Below.refl _ _⟩ | exact Below.refl _ _
          focus (simp only [Act.put, List.setIfInBounds_toArray, List.set_cons_succ, List.set_cons_zero]; try rfl)
          repeat (first
            | (refine Dv.Chain.step (v := ?_) (a' := ?_) rfl rfl rfl ?_ ?_ ?_
               rotate_left 2
               focus (intro w; go_simp; try with_reducible rfl)
               focus (simp only [Act.put, List.setIfInBounds_toArray, List.set_cons_succ, List.set_cons_zero]; try rfl))
            | (refine Dv.Chain.skip' (a' := ?_) rfl rfl rfl ?_ ?_
               rotate_left 1
               focus (simp only [Act.put, List.setIfInBounds_toArray, List.set_cons_succ, List.set_cons_zero]; try rfl)))
          refine Dv.XT.last _ _ _ rfl rfl (by kernel_rfl) rfl rfl (fun vs wx hw hF => ?_) (fun v18 hv18 a' ha => ?_)
          focus
            have hd := HJ.out.then_below hw
            have hd2 : SmsAt wx (.slice jA np jc) P := by unfold SmsAt; rw [← HNP.out]; exact hd.slice
            go_simp
            with_reducible refine (rput_any (.slice jA np jc) P (z.t, z.v) wx hd2 (by have := HNP.out; omega)).mono ?_
            rintro e w' ⟨v, rfl, hn⟩
            rw [← HNN.out] at hn
            obtain ⟨A6, c6, rfl, _⟩ := hn.buf.shape
            refine ⟨⟨_, _, rfl⟩, ?_⟩
            unfold FinPt
            rw [Dv.updV_self]
            exact hn.after hd.below
          obtain ⟨A5, c5, rfl⟩ := hv18
          simp only [Act.put, List.setIfInBounds_toArray, List.set_cons_succ, List.set_cons_zero] at ha
          subst ha
          repeat (first
            | (refine Dv.Chain.step (v := ?_) (a' := ?_) rfl rfl rfl ?_ ?_ ?_
               rotate_left 2
               focus (intro w; go_simp; try with_reducible rfl)
               focus (simp only [Act.put, List.setIfInBounds_toArray, List.set_cons_succ, List.set_cons_zero]; try rfl))
            | (refine Dv.Chain.skip' (a' := ?_) rfl rfl rfl ?_ ?_
               rotate_left 1
               focus (simp only [Act.put, List.setIfInBounds_toArray, List.set_cons_succ, List.set_cons_zero]; try rfl)))
          refine Dv.XT.end_ (by decide) (fun vs2 w10 hv hfin => ?_)
          unfold FinPt at hfin
          rw [hv 18 _ rfl] at hfin
          have HF := Lib.hid hfin
          clear hfin hv
          go_wp2_with fail
          go_roundw
          case rel => exact ⟨j + 1, N, by omega, by omega, by go_num, hpl, HF, HPS⟩
          case measure => simp [intOf]; omega
        · have hjx : l.take j = l.take 15 := by
            rcases Nat.lt_or_ge j 15 with h1 | h1
            · rw [List.take_of_length_le (by omega), List.take_of_length_le (by omega)]
            · obtain rfl : j = 15 := by omega
              rfl
          have hpf := HPF.out
          rw [hjx] at hpf
          have hpf : P = lst15 l := hpf
          subst hpf
          have hPl := lst15_len l
          have x0 := HX0.out _ HJ.out.below
          have HV1 := Lib.hid (HTV.out.below HJ.out.below)
          have HO1 := Lib.hid (HNB.out.then_below HJ.out.below)
          have HJ1 := Lib.hid (HJ.out.after hbw)
          obtain ⟨P, hP⟩ : ∃ P, P = lst15 l := ⟨_, rfl⟩
          have HP := Lib.hid hP
          rw [← hP] at hPl HJ HJ1 hjc ⊢
          have hnO : nO ≤ 75 := by
            have h1 := smp_len ((ls.take k).map lst15)
            have h2 := flat15_len (ls.take k)
            rw [← HRR.out, ← HNO.out] at h1
            rw [HLK.out] at h2
            omega
          have hcase : (j : Int) = (l.length : Int) ∨ ((j : Int) < (l.length : Int) ∧ (15 : Int) ≤ (j : Int)) := by omega
          clear hjx hPj HPF hgo2 HTV HNB hP
          rw [HLK.out] at HV1
          rcases hcase with h1 | ⟨h1, h2⟩
          case' inl => have h3 : (l.length : Int) ≤ (j : Int) := by omega
          case' inl => clear h1
          all_goals
            go_upto_region 12 with (at_builtin; refine wpList_append_nlit rfl (.tmp 57) (.tmp 59) 23 rfl part_ty rfl HV1.out.n rfl (by simp) rfl (by simp [Value.oneCell']) (by simp only [maxLen]; have := HLK.out; omega) (by have := HLK.out; omega) ?_; intro v3 w3 hn3 ha3; have hn3' := hn3; rw [HP.out] at hn3'; obtain ⟨hs3, hk3⟩ := Svs.snoc (l := l) (HV1.out.below (below_alloc1 _ _)) (by rw [← HP.out]; exact HJ1.out.alloc _) hn3' ha3; have HV3 := Lib.hid hs3; have HO3 := Lib.hid (nbuf_ke (HO1.out.alloc _) hk3 hn3.below (by decide)); have HP3 := Lib.hid (show SmsAt w3 (.slice jA P.length jc) P from (nbuf_ke (HJ1.out.alloc _) hk3 hn3.below (by decide)).slice); clear hn3 ha3 hs3 hk3 hn3')
            obtain ⟨wp, hwp⟩ : ∃ wp, wp = w3 := ⟨_, rfl⟩
            have HO0 := Lib.hid (show O = putAll O (P.take 0) from rfl)
            clear hwp
            go_wp2_with fail
            go_loopw [4, 63] (fun g i wz => ∃ (m : Nat) (O2 : List Sm), m ≤ P.length ∧ i = .int .i64 m ∧ O2.length ≤ nO + m ∧ Hid (Below w3.heap.size w3 wz) ∧ Hid (NBuf W wz 31 2 g O2.length (smc O2)) ∧ Hid (O2 = putAll O (P.take m))) (fun _ i _ => P.length - (intOf i).toNat)
            case atStart => exact ⟨0, O, Nat.zero_le _, rfl, by have := HNO.out; omega, Lib.hid (Below.refl _ _), Lib.hid (by rw [← HNO.out]; exact HO3.out), HO0⟩
            case round =>
              obtain ⟨m, O2, hm, rfl, hO2, HBZ, HG, HPO⟩ := hrel
              obtain ⟨gA, gc, rfl, hgc⟩ := HG.out.buf.shape
              clear HO0 HO3
              by_cases hgo3 : m < P.length
              · obtain ⟨s, hs⟩ : ∃ s, P[m]? = some s := ⟨_, List.getElem?_eq_getElem hgo3⟩
                obtain ⟨pb, po, rfl, hpb, g1, g2⟩ := (HP3.out.below HBZ.out).at_ hs
                have hps : putS O2 s = putAll O (P.take (m + 1)) := by
                  rw [List.take_add_one, hs, putAll_append, ← HPO.out]; rfl
                have HPS := Lib.hid hps
                have hpl := putS_len O2 s
                obtain ⟨N, hN⟩ : ∃ N, N = putS O2 s := ⟨_, rfl⟩
                rw [← hN] at HPS hpl
                have HNN := Lib.hid hN
                obtain ⟨wy, hwy⟩ : ∃ wy, wy = wr.alloc (.cells #[.int .i64 s.1, .int .u64 (s.2 : Nat)] 31) := ⟨_, rfl⟩
                have hby : Below wr.heap.size wr wy := by rw [hwy]; exact below_alloc1 _ _
                have hSB : Blk wy wr.heap.size 31 #[.int .i64 s.1, .int .u64 (s.2 : Nat)] := by rw [hwy]; exact Blk.new _ _ _
                obtain ⟨u0, u1⟩ := hSB.c2
                have HG1 := Lib.hid (HG.out.then_below hby)
                have HB1 := Lib.hid (below_trans HBZ.out hby)
                have hpt := rput_any (.slice gA O2.length gc) O2 s wy HG1.out.slice (by omega)
                have HPT := Lib.hid hpt
                clear hs hps hN hby hSB hpt
                go_upto_region 15 with fail
                rw [← hwy]
                clear hwy
                go_wp2_with fail
                refine HPT.out.mono ?_
                rintro e w5 ⟨v5, rfl, hn5⟩
                rw [← HNN.out] at hn5
                have HN5 := Lib.hid (hn5.after HG1.out.below)
                have HB5 := Lib.hid (below_trans HB1.out hn5.below)
                clear hn5 HPT
                go_wp2_with fail
                go_roundw
                case rel => exact ⟨m + 1, N, by omega, by go_num, by omega, HB5, HN5, HPS⟩
                case measure => simp [intOf]; omega
              · obtain rfl : m = P.length := by omega
                have hpo := HPO.out
                rw [List.take_length, HP.out, HRR.out] at hpo
                have hpo : O2 = smp ((ls.take (k + 1)).map lst15) := by
                  rw [hpo, HTK.out, List.map_append]
                  unfold smp
                  rw [List.flatten_append, putAll_append]
                  simp
                have HPO2 := Lib.hid hpo
                have hv := HV3.out.below HBZ.out
                rw [← HTK.out] at hv
                have HV5 := Lib.hid hv
                clear hpo hv
                go_wp2_with fail
                go_roundw
                case rel => exact ⟨k + 1, O2, _, by omega, by omega, by go_num, HV5, HG, HPO2⟩
                case measure => simp [intOf]; omega
    · have hsv := HTV.out.call (by rw [HLK.out]; omega)
      rw [HLK.out, ← HRR.out] at hsv
      have HSV := Lib.hid hsv
      have hnO : nO ≤ 75 := by
        have h1 := smp_len ((ls.take k).map lst15)
        have h2 := flat15_len (ls.take k)
        rw [← HRR.out, ← HNO.out] at h1
        rw [HLK.out] at h2
        omega
      have hcase : (k : Int) = (n : Int) ∨ ((k : Int) < (n : Int) ∧ (5 : Int) ≤ (k : Int)) := by omega
      clear hsv hgo
      rcases hcase with h1 | ⟨h1, h2⟩
      case' inl => have h3 : (n : Int) ≤ (k : Int) := by omega
      case' inl => clear h1
      all_goals
        go_wp2_with fail
        refine HSV.out.mono ?_
        rintro e w5 ⟨v5, rfl, hn5⟩
        rw [← HNO.out] at hn5
        obtain ⟨A5, c5, rfl, _⟩ := hn5.buf.shape
        have HG5 := Lib.hid (show SmsAt w5 (.slice A5 nO c5) O by unfold SmsAt; rw [← HNO.out]; exact hn5.slice)
        have HW5 := Lib.hid (show SmsAt w5 (.slice fA nO fc) O by unfold SmsAt; rw [← HNO.out]; exact (HNB.out.then_below hn5.below).slice)
        have HB5 := Lib.hid (below_trans hbw hn5.below)
        clear hn5 HSV HTV HNB
        go_wp2_with fail
        refine (awake14_any _).mono ?_
        rintro e w6 ⟨rfl, b6⟩
        have HG6 := Lib.hid (HG5.out.below b6)
        have HW6 := Lib.hid (HW5.out.below b6)
        have HB6 := Lib.hid (below_trans HB5.out b6)
        clear b6 HG5 HW5 HB5
        go_wp2_with fail
        go_loopw [84] (fun i wz => ∃ j : Nat, j ≤ nO ∧ i = .int .i64 j ∧ Hid (Below w6.heap.size w6 wz)) (fun i _ => nO - (intOf i).toNat)
        case atStart => exact ⟨0, Nat.zero_le _, rfl, Lib.hid (Below.refl _ _)⟩
        case round =>
          obtain ⟨j, hj, rfl, HBZ⟩ := hrel
          by_cases hgo2 : j < nO
          · obtain ⟨z, hz⟩ : ∃ z, O[j]? = some z := ⟨_, List.getElem?_eq_getElem (by have := HNO.out; omega)⟩
            obtain ⟨sb, so, rfl, _⟩ := HG6.out.at_ hz
            obtain ⟨sb', so', rfl, _⟩ := HW6.out.at_ hz
            have HZ := Lib.hid hz
            clear hz
            go_upto_region 23 with fail
            refine wp_region_facts [(3, (isV (.agg #[.int .i64 z.1, .int .u64 (z.2 : Nat)]), noFact)), (7, (isV (.agg #[.int .i64 z.1, .int .u64 (z.2 : Nat)]), noFact))] (by kernel_rfl) 97 (by kernel_rfl) rfl ?_ ?_ ?_
            · apply lookup_ne
              simp only [List.forall_mem_cons, List.not_mem_nil, false_imp_iff, implies_true, and_true]
              exact ⟨⟨_, rfl⟩, ⟨_, rfl⟩⟩
            · apply lookup_st
              simp only [List.forall_mem_cons, List.not_mem_nil, false_imp_iff, implies_true, and_true]
              refine ⟨?_, ?_⟩
              · exact fun _ _ _ _ _ => trivial
              · exact fun _ _ _ _ _ => trivial
            repeat (first
              | (refine Chain.step (v := ?_) (a' := ?_) rfl rfl rfl ?_ ?_ ?_
                 rotate_left 2
                 focus (intro w; go_simp; try with_reducible rfl)
                 focus (simp only [Act.put, List.setIfInBounds_toArray, List.set_cons_succ, List.set_cons_zero]; try rfl))
              | (refine Chain.skip (a' := ?_) rfl rfl rfl ?_ ?_
                 rotate_left 1
                 focus (simp only [Act.put, List.setIfInBounds_toArray, List.set_cons_succ, List.set_cons_zero]; try rfl)))
            refine Chain.call' (a' := ?_) _ rfl rfl rfl rfl (fun wx hw hF => ?_) ?_ ?_
            rotate_left 1
            focus
              obtain ⟨g0, g1⟩ := (HG6.out.below (below_trans HBZ.out hw)).at2 HZ.out
              go_simp; first | exact ⟨rfl, Below.refl _ _⟩ | exact Below.refl _ _
            focus (simp only [Act.put, List.setIfInBounds_toArray, List.set_cons_succ, List.set_cons_zero]; try rfl)
            repeat (first
              | (refine Chain.step (v := ?_) (a' := ?_) rfl rfl rfl ?_ ?_ ?_
                 rotate_left 2
                 focus (intro w; go_simp; try with_reducible rfl)
                 focus (simp only [Act.put, List.setIfInBounds_toArray, List.set_cons_succ, List.set_cons_zero]; try rfl))
              | (refine Chain.skip (a' := ?_) rfl rfl rfl ?_ ?_
                 rotate_left 1
                 focus (simp only [Act.put, List.setIfInBounds_toArray, List.set_cons_succ, List.set_cons_zero]; try rfl)))
            refine Chain.call' (a' := ?_) _ rfl rfl rfl rfl (fun wx hw hF => ?_) ?_ ?_
            rotate_left 1
            focus
              obtain ⟨g0, g1⟩ := (HW6.out.below (below_trans HBZ.out hw)).at2 HZ.out
              go_simp; first | exact ⟨rfl, Below.refl _ _⟩ | exact Below.refl _ _
            focus (simp only [Act.put, List.setIfInBounds_toArray, List.set_cons_succ, List.set_cons_zero]; try rfl)
            repeat (first
              | (refine Chain.step (v := ?_) (a' := ?_) rfl rfl rfl ?_ ?_ ?_
                 rotate_left 2
                 focus (intro w; go_simp; try with_reducible rfl)
                 focus (simp only [Act.put, List.setIfInBounds_toArray, List.set_cons_succ, List.set_cons_zero]; try rfl))
              | (refine Chain.skip (a' := ?_) rfl rfl rfl ?_ ?_
                 rotate_left 1
                 focus (simp only [Act.put, List.setIfInBounds_toArray, List.set_cons_succ, List.set_cons_zero]; try rfl)))
            refine Chain.end_ (fun wz2 hwz2 _ => ?_)
            have HB7 := Lib.hid (below_trans HBZ.out hwz2)
            clear hwz2 HBZ
            go_wp2_with fail
            go_roundw
            case rel => exact ⟨j + 1, by omega, by go_num, HB7⟩
            case measure => simp [intOf]; omega
          · obtain rfl : j = nO := by omega
            have HB8 := Lib.hid (below_trans HB6.out HBZ.out)
            go_wp2_with fail
            go_ret
            exact ⟨rfl, HB8.out⟩
set_option maxHeartbeats 8000000 in
set_option maxRecDepth 100000 in
theorem mergeSamples_lifted (os : Os) (started : os.Started) (H : Type) (enc : TypeId × Value → H) :
    ReturnsInHanded {} Tryd.checked os 3 .any (fun w args => (Rows.mergeSamplesSpec.pre enc Tryd.prog Tryd.f3 [] false w args ∧ laidMetH Tryd.prog [("unicode/utf8.acceptRanges", Rows.laid_unicode_utf8_acceptRanges), ("unicode/utf8.first", Rows.laid_unicode_utf8_first)] w) ∧ sizedMet enc Tryd.prog Tryd.f3 (OpenSpec.ofChange Rows.mergeSamplesSpec) false w args)
      (Rows.mergeSamplesSpec.post enc Tryd.prog Tryd.f3 false true false false) := by
  refine returnsInHanded_of_change_and (C := Tryd.checked) (X := fun w _ => laidMetH Tryd.prog [("unicode/utf8.acceptRanges", Rows.laid_unicode_utf8_acceptRanges), ("unicode/utf8.first", Rows.laid_unicode_utf8_first)] w) (fun _ _ _ hh h => h.of_heap hh) law_own started (by kernel_rfl) Tryd.func3
    (ChangeSpec.witness_shaped (enc := enc) (C := Tryd.checked) (os := os) (X := fun w _ => laidMetH Tryd.prog [("unicode/utf8.acceptRanges", Rows.laid_unicode_utf8_acceptRanges), ("unicode/utf8.first", Rows.laid_unicode_utf8_first)] w) false (World.laidAll Tryd.prog os [("unicode/utf8.acceptRanges", Rows.laid_unicode_utf8_acceptRanges), ("unicode/utf8.first", Rows.laid_unicode_utf8_first)]) #[.slice none 0 0] 8 (World.laidAll_os _ _ _)
      (World.shaped_of_ZipB (by kernel_rfl) (by kernel_rfl)) (by kernel_rfl) (by kernel_rfl) (by kernel_rfl) (door_met os _)) ?_
  intro W base args ds gs before hval0 hW _ _ hL _
  have hval : ∀ (j : Nat) t v, Tryd.f3.params[j]? = some t → args[j]? = some v → Value.okWide Tryd.prog W .any base t v := hval0
  have hW' := hW
  obtain ⟨p, q, hA0, hV, rfl, _, _⟩ := hW
  have hA : DataW.TrodAll enc Tryd.prog W 0 (fun _ => true) true Tryd.f3.params.toList args.toList ds p := hA0
  rw [Tryd.params3] at hA hval
  obtain ⟨v0, vs0, d0, ds0, p0, q0, hargs, rfl, rfl, h0, r0⟩ := trodAll_cons hA
  obtain ⟨rfl, rfl, rfl⟩ := trodAll_nil r0
  obtain rfl : args = #[v0] := by cases args; simp_all
  obtain ⟨rfl, rfl⟩ := trodVars_none hV
  obtain ⟨ts0, hts0⟩ := open_lists14 (hval 0 22 v0 rfl rfl) h0
  refine (mergeSamples_walk0 v0 ts0 W hts0 (of_laid hL)).mono fun e W' ⟨he, hb⟩ => ?_
  subst he
  exact ⟨_, rfl, law_post law_laid (by intro t ht; rw [Tryd.params3] at ht; simp only [List.mem_cons, List.not_mem_nil, or_false] at ht; rcases ht with rfl <;> exact ⟨by kernel_rfl, of_decide_eq_true (by kernel_rfl)⟩) rfl Tryd.underlying4 rfl rfl hW' hb⟩

theorem mergeSamples_holds : Rows.MergeSamplesSaid :=
  OpenClaim.holds_of_wide 3 Tryd.f3 rfl rfl rfl rfl rfl rfl rfl ⟨rfl, rfl, rfl, rfl, rfl⟩ rfl rfl rfl rfl rfl (by kernel_rfl) Tryd.func3 (by kernel_rfl)
    (of_decide_eq_true (by kernel_rfl)) (by unfold Func.isWrapper; first | (rw [if_pos (by decide +kernel)]; kernel_rfl) | (rw [if_neg (by decide +kernel)]; exact ⟨rfl, rfl⟩))
    (fun os started H enc _ => mergeSamples_lifted os started H enc)

theorem mergeSamples_card : Rows.MergeSamplesCardSaid :=
  Claim7.holds_tied_plain_at .later [] [.data, .pinned] true (true, "b5117781a2fc4f5bf1bebc4ed0b17e914806c6cca6626edf4671d5f934c5a5b4") true
    mergeSamples_holds (fun _ h => by cases h) (by kernel_rfl) (fun _ h => by cases h) mergeSamples_row_tie rfl ⟨rfl, rfl⟩ (by kernel_rfl) rfl
    (fun f fn hf hfn => by
      obtain rfl : f = 3 := Option.some.inj ((show Tryd.prog.funcNamed "barograph/barographlaw14.MergeSamples" = some 3 by kernel_rfl).symm.trans hf) |>.symm
      obtain rfl : fn = Tryd.f3 := (Option.some.inj (Tryd.func3.symm.trans hfn)).symm
      exact ⟨by kernel_rfl, fun j t ht => by
        rw [Tryd.params3] at ht
        rcases j with _ | j
        · obtain rfl : t = 22 := by simpa using ht.symm
          exact (show Tryd.prog.wantsStandIn 22 = false by kernel_rfl)
        simp at ht⟩)
    (by kernel_rfl)

end Go.Proofs.YtfimalbdlepfnaaDoor
