/-
  Layer 6: the laws' helpers: Few, Told, unlike, awake.
-/
import Derived.Test.YtpjicajifdandaaDoorLabB
import Derived.Test.YtpjicajifdandaaDoorLabE
import Derived.Test.YtpjicajifdandaaDoorLabF
import Derived.Test.YtpjicajifdandaaDoorLabH
import Derived.Test.YtpjicajifdandaaDoorCut
import Derived.Test.YtpjicajifdandaaDoorLib8
import Derived.Test.YtpjicajifdandaaDoorLib12
namespace Go.Proofs.YtpjicajifdandaaDoor
open Go.RowKit Go.Bar Go.Bar.Leb Go.Bar.Lab

/-- at most ten pairs of short texts -/
def cut42 (p : Pr) : Pr := (p.1.take 42, p.2.take 42)
def few (l : List Pr) : List Pr := (l.take 10).map cut42
theorem few_len (l : List Pr) : (few l).length ≤ 10 := by unfold few; rw [List.length_map, List.length_take]; omega
theorem few_sm (l : List Pr) : ∀ p ∈ few l, p.1.length ≤ 42 ∧ p.2.length ≤ 42 := by
  intro p hp
  unfold few at hp
  obtain ⟨q, _, rfl⟩ := List.mem_map.1 hp
  unfold cut42
  simp only [List.length_take]
  omega
/-- pairs in a buffer of the call's own -/
def RetN (w : World) (l : List Pr) (e : Ending) (w' : World) : Prop := ∃ v, e = .returned v ∧ NBuf w w' 57 2 v l.length (pcs l)

theorem isSl_some' (n : Nat) : ∃ v : Value, isSl n v := isSl_some n

set_option maxHeartbeats 4000000 in
set_option maxRecDepth 10000 in
theorem few_any (v : Value) (l : List Pr) (w : World) (h : PsAt w v l) (hp : ∀ p ∈ l, p.1.length ≤ maxLen ∧ p.2.length ≤ maxLen) :
    Calls Tryd.prog 9 #[v] w (RetN w (few l)) := by
  obtain ⟨A, c, rfl, hlc, hcm⟩ := h.shape
  unfold maxLen at hcm
  have HPL := Lib.hid hp
  clear hp
  have hN0 := NBuf.lit0 (Below.refl w.heap.size w) 57 2
  have HN0 := Lib.hid hN0
  clear hN0
  go_enter Tryd.func9, Tryd.ntmps9
  go_wp2_with fail
  go_loopw [4, 3] (fun i d wr => ∃ m : Nat, m ≤ l.length ∧ m ≤ 10 ∧ i = .int .i64 m ∧ Hid (NBuf w wr 57 2 d m (pcs ((l.take m).map cut42)))) (fun i _ _ => 10 - (intOf i).toNat)
  case atStart => exact ⟨0, Nat.zero_le _, by omega, rfl, HN0⟩
  case round =>
    obtain ⟨m, hk, hk10, rfl, hnb⟩ := hrel
    obtain ⟨fA, fc, rfl, hfc⟩ := hnb.out.buf.shape
    by_cases hgo : m < l.length
    · by_cases h10 : m < 10
      · obtain ⟨p, hpk⟩ : ∃ p, l[m]? = some p := ⟨_, List.getElem?_eq_getElem hgo⟩
        have HPM := Lib.hid (HPL.out p (List.mem_of_getElem? hpk))
        obtain ⟨b, o, rfl, hbb, g1, g2⟩ := h.at_ hpk
        have G1 := Lib.hid g1
        have G2 := Lib.hid g2
        have HPK := Lib.hid hpk
        have hc1 := fun w => cut_any (bs p.1) 42 w (by omega) (by omega) HPM.out.1
        have hc2 := fun w => cut_any (bs p.2) 42 w (by omega) (by omega) HPM.out.2
        simp only [bs_data] at hc1 hc2
        have HC1 := Lib.hid hc1
        have HC2 := Lib.hid hc2
        obtain ⟨ys, hys⟩ : ∃ ys, pcs ((l.take m).map cut42) = ys := ⟨_, rfl⟩
        rw [hys] at hnb
        have HYS := Lib.hid hys
        clear hc1 hc2 g1 g2 hpk hys
        go_wp2_with fail
        go_upto_region 5 with fail
        obtain ⟨WS, rfl⟩ : ∃ WS, WS = w := ⟨_, rfl⟩
        refine Dk.wp_region_chain (fun kQ => List.lookup kQ [(5, (isV (.string (bs p.1)), Dk.noK)), (6, (isV (.string (bs (p.1.take 42))), Dk.noK)), (11, (isV (.string (bs p.2)), Dk.noK)), (12, (isV (.string (bs (p.2.take 42))), Dk.noK)), (14, ((fun v => ∃ g, v = .slice (some ⟨g, 0, none⟩) 1 1), Dk.KF 15 (fun v w => Buf w 57 2 v 1 [.string (bs (p.1.take 42)), .string (bs (p.2.take 42))]))), (15, (isSl (m + 1), Dk.KL (fun v w => NBuf WS w 57 2 v (m + 1) (ys ++ [.string (bs (p.1.take 42)), .string (bs (p.2.take 42))]))))]) (Dk.RB 16 [15]) (fun _ w => NBuf WS w 57 2 (.slice fA m fc) m ys) (by kernel_rfl) 33 (by kernel_rfl) rfl ?_ ?_ ?_ ?_ ?_ ?_
        · apply Dk.lookup_all (p := fun _ (g : (Value → Prop) × (Value → (Nat → Bool) → World → Prop)) => ∃ v, g.1 v)
          simp only [List.forall_mem_cons, List.not_mem_nil, false_imp_iff, implies_true, and_true]
          exact ⟨⟨_, rfl⟩, ⟨_, rfl⟩, ⟨_, rfl⟩, ⟨_, rfl⟩, ⟨_, 0, rfl⟩, isSl_some _⟩
        · refine Dk.lookup_all ?_
          simp only [List.forall_mem_cons, List.not_mem_nil, false_imp_iff, implies_true, and_true]
          refine ⟨?_, ?_, ?_, ?_, ?_, ?_⟩
          · exact fun _ _ _ _ _ _ _ _ _ _ _ => trivial
          · exact fun _ _ _ _ _ _ _ _ _ _ _ => trivial
          · exact fun _ _ _ _ _ _ _ _ _ _ _ => trivial
          · exact fun _ _ _ _ _ _ _ _ _ _ _ => trivial
          · exact Dk.KF.keepB (fun _ _ _ hb h => h.below hb) (by kernel_rfl)
          · exact Dk.KL.keepLast (by kernel_rfl)
        · refine Dk.lookup_all ?_
          simp only [List.forall_mem_cons, List.not_mem_nil, false_imp_iff, implies_true, and_true]
          refine ⟨?_, ?_, ?_, ?_, ?_, ?_⟩
          · exact fun _ _ _ _ _ _ => trivial
          · exact fun _ _ _ _ _ _ => trivial
          · exact fun _ _ _ _ _ _ => trivial
          · exact fun _ _ _ _ _ _ => trivial
          · exact fun _ _ _ _ _ h => Dk.KF.pure h
          · exact fun _ _ _ _ _ h => h
        · exact fun _ _ _ _ h => h
        · exact hnb.out.drew
        refine Dk.Chain.weaken (F := Dk.atK []) (fun _ _ _ _ => trivial) ?_
        repeat (first
          | (refine Dk.Chain.step (v := ?_) (a' := ?_) rfl rfl rfl ?_ ?_ ?_
             rotate_left 2
             focus (intro w; go_simp; try with_reducible rfl)
             focus (simp only [Act.put, List.setIfInBounds_toArray, List.set_cons_succ, List.set_cons_zero]; try rfl))
          | (refine Dk.Chain.skip (a' := ?_) rfl rfl rfl ?_ ?_
             rotate_left 1
             focus (simp only [Act.put, List.setIfInBounds_toArray, List.set_cons_succ, List.set_cons_zero]; try rfl)))
        refine Dk.Chain.call (a' := ?_) _ rfl rfl rfl rfl (fun D wx hx hD hF => ?_) ?_ ?_
        rotate_left 1
        focus
          have y := (hx.below.cell (p := ⟨b, o + m * 2, none⟩) hbb).trans G1.out
          go_simp
          first | exact ⟨Dk.RB.of (by decide) (Below.refl _ _), hx⟩ | exact Dk.RB.of (by decide) (Below.refl _ _)
        focus (simp only [Act.put, List.setIfInBounds_toArray, List.set_cons_succ, List.set_cons_zero]; try rfl)
        repeat (first
          | (refine Dk.Chain.step (v := ?_) (a' := ?_) rfl rfl rfl ?_ ?_ ?_
             rotate_left 2
             focus (intro w; go_simp; try with_reducible rfl)
             focus (simp only [Act.put, List.setIfInBounds_toArray, List.set_cons_succ, List.set_cons_zero]; try rfl))
          | (refine Dk.Chain.skip (a' := ?_) rfl rfl rfl ?_ ?_
             rotate_left 1
             focus (simp only [Act.put, List.setIfInBounds_toArray, List.set_cons_succ, List.set_cons_zero]; try rfl)))
        refine Dk.Chain.call (a' := ?_) _ rfl rfl rfl rfl (fun D wx hx hD hF => ?_) ?_ ?_
        rotate_left 1
        focus
          go_simp
          (with_reducible refine (HC1.out _).mono ?_)
          rintro e w' ⟨rfl, rfl⟩
          exact ⟨rfl, Dk.RB.of (by decide) (Below.refl _ _), hx⟩
        focus (simp only [Act.put, List.setIfInBounds_toArray, List.set_cons_succ, List.set_cons_zero]; try rfl)
        repeat (first
          | (refine Dk.Chain.step (v := ?_) (a' := ?_) rfl rfl rfl ?_ ?_ ?_
             rotate_left 2
             focus (intro w; go_simp; try with_reducible rfl)
             focus (simp only [Act.put, List.setIfInBounds_toArray, List.set_cons_succ, List.set_cons_zero]; try rfl))
          | (refine Dk.Chain.skip (a' := ?_) rfl rfl rfl ?_ ?_
             rotate_left 1
             focus (simp only [Act.put, List.setIfInBounds_toArray, List.set_cons_succ, List.set_cons_zero]; try rfl)))
        refine Dk.Chain.call (a' := ?_) _ rfl rfl rfl rfl (fun D wx hx hD hF => ?_) ?_ ?_
        rotate_left 1
        focus
          have y := (hx.below.cell (p := ⟨b, o + m * 2 + 1, none⟩) hbb).trans G2.out
          go_simp
          first | exact ⟨Dk.RB.of (by decide) (Below.refl _ _), hx⟩ | exact Dk.RB.of (by decide) (Below.refl _ _)
        focus (simp only [Act.put, List.setIfInBounds_toArray, List.set_cons_succ, List.set_cons_zero]; try rfl)
        repeat (first
          | (refine Dk.Chain.step (v := ?_) (a' := ?_) rfl rfl rfl ?_ ?_ ?_
             rotate_left 2
             focus (intro w; go_simp; try with_reducible rfl)
             focus (simp only [Act.put, List.setIfInBounds_toArray, List.set_cons_succ, List.set_cons_zero]; try rfl))
          | (refine Dk.Chain.skip (a' := ?_) rfl rfl rfl ?_ ?_
             rotate_left 1
             focus (simp only [Act.put, List.setIfInBounds_toArray, List.set_cons_succ, List.set_cons_zero]; try rfl)))
        refine Dk.Chain.call (a' := ?_) _ rfl rfl rfl rfl (fun D wx hx hD hF => ?_) ?_ ?_
        rotate_left 1
        focus
          go_simp
          (with_reducible refine (HC2.out _).mono ?_)
          rintro e w' ⟨rfl, rfl⟩
          exact ⟨rfl, Dk.RB.of (by decide) (Below.refl _ _), hx⟩
        focus (simp only [Act.put, List.setIfInBounds_toArray, List.set_cons_succ, List.set_cons_zero]; try rfl)
        repeat (first
          | (refine Dk.Chain.step (v := ?_) (a' := ?_) rfl rfl rfl ?_ ?_ ?_
             rotate_left 2
             focus (intro w; go_simp; try with_reducible rfl)
             focus (simp only [Act.put, List.setIfInBounds_toArray, List.set_cons_succ, List.set_cons_zero]; try rfl))
          | (refine Dk.Chain.skip (a' := ?_) rfl rfl rfl ?_ ?_
             rotate_left 1
             focus (simp only [Act.put, List.setIfInBounds_toArray, List.set_cons_succ, List.set_cons_zero]; try rfl)))
        refine Dk.Chain.make _ _ rfl rfl rfl (fun D wx hx hD hF => ?_) (fun d14 hd14 a' ha => ?_)
        focus
          go_simp
          exact ⟨Dk.RB.of (by decide) (ba1 _ _), hx.then_below (ba1 _ _), fun _ => Buf.lit wx 57 2 1 [.string (bs (p.1.take 42)), .string (bs (p.2.take 42))] (by simp) (by decide)⟩
        obtain ⟨g4, rfl⟩ := hd14
        simp only [Act.put, List.setIfInBounds_toArray, List.set_cons_succ, List.set_cons_zero] at ha
        subst ha
        repeat (first
          | (refine Dk.Chain.step (v := ?_) (a' := ?_) rfl rfl rfl ?_ ?_ ?_
             rotate_left 2
             focus (intro w; go_simp; try with_reducible rfl)
             focus (simp only [Act.put, List.setIfInBounds_toArray, List.set_cons_succ, List.set_cons_zero]; try rfl))
          | (refine Dk.Chain.skip (a' := ?_) rfl rfl rfl ?_ ?_
             rotate_left 1
             focus (simp only [Act.put, List.setIfInBounds_toArray, List.set_cons_succ, List.set_cons_zero]; try rfl)))
        refine Dk.Chain.make _ _ rfl rfl rfl (fun D wx hx hD hF => ?_) (fun d15 hd15 a' ha => ?_)
        focus
          have f14 := (show Dk.KF 15 (fun v w => Buf w 57 2 v 1 [.string (bs (p.1.take 42)), .string (bs (p.2.take 42))]) _ D wx from Dk.atK_get' (hF 14 (by kernel_rfl)).2 rfl) hD
          refine oper_append_buf (.tmp 16) (.tmp 30) 22 rfl pair_ty rfl hx.buf rfl (f14.src Tryd.underlying22 (by simp [Value.oneCell'])) (by simp only [maxLen]; omega) (by omega) ?_
          intro v' w' hb ha hg
          have hst := hx.step hb ha hg
          exact ⟨v', rfl, Dk.RB.yes (by decide) rfl, ⟨hx.buf.ap_self ha, hst.below, hx.new⟩, hb.shape, hst⟩
        obtain ⟨A5, c5, rfl, hc5⟩ := hd15
        simp only [Act.put, List.setIfInBounds_toArray, List.set_cons_succ, List.set_cons_zero] at ha
        subst ha
        repeat (first
          | (refine Dk.Chain.step (v := ?_) (a' := ?_) rfl rfl rfl ?_ ?_ ?_
             rotate_left 2
             focus (intro w; go_simp; try with_reducible rfl)
             focus (simp only [Act.put, List.setIfInBounds_toArray, List.set_cons_succ, List.set_cons_zero]; try rfl))
          | (refine Dk.Chain.skip (a' := ?_) rfl rfl rfl ?_ ?_
             rotate_left 1
             focus (simp only [Act.put, List.setIfInBounds_toArray, List.set_cons_succ, List.set_cons_zero]; try rfl)))
        refine Dk.Chain.end_facts (fun D wz hX hF => ?_)
        have h9 := (show Dk.KL (fun v w => NBuf WS w 57 2 v (m + 1) (ys ++ [.string (bs (p.1.take 42)), .string (bs (p.2.take 42))])) _ D wz from Dk.atK_get' (hF 15) rfl)
        clear hX hF
        have H9 := Lib.hid h9
        clear h9
        go_wp2_with fail
        go_roundw
        case rel =>
          refine ⟨m + 1, by omega, by omega, by go_num, Lib.hid ?_⟩
          rw [List.take_add_one, HPK.out, List.map_append, pcs_append, HYS.out]
          exact H9.out
        case measure => simp [intOf]; omega
      · obtain rfl : m = 10 := by omega
        have hf : (l.take 10).map cut42 = few l := rfl
        have hfl : (few l).length = 10 := by unfold few; rw [List.length_map, List.length_take]; omega
        have hn2 : NBuf w wr 57 2 (.slice fA 10 fc) (few l).length (pcs (few l)) := by rw [hfl]; exact hnb.out
        have HN2 := Lib.hid hn2
        clear hf hfl hn2 h10
        go_wp2_with fail
        go_ret
        exact ⟨_, rfl, HN2.out⟩
    · have hml : m = l.length := by omega
      have hf : few l = (l.take m).map cut42 := by unfold few; rw [List.take_of_length_le (by omega), List.take_of_length_le (by omega)]
      have hfl : (few l).length = m := by rw [hf, List.length_map, List.length_take]; omega
      have hn2 : NBuf w wr 57 2 (.slice fA m fc) (few l).length (pcs (few l)) := by rw [hfl, hf]; exact hnb.out
      have HN2 := Lib.hid hn2
      have hd : decide ((m : Int) < (l.length : Int)) = false := decide_eq_false (by omega)
      clear hf hfl hn2 hml
      go_wp2_with fail
      go_ret
      exact ⟨_, rfl, HN2.out⟩

theorem drewN_two (w : World) (a b : Nat) : ∃ n, (w.drewN a).drewN b = w.drewN n := ⟨a + b, by simp [World.drewN, Nat.add_assoc]⟩

set_option maxHeartbeats 1000000 in
set_option maxRecDepth 10000 in
theorem unlike_any (v : Value) (l : List Pr) (w : World) (h : PsAt w v l) :
    Calls Tryd.prog 17 #[v] w (Quiet w (.bool (decide (Unlike l)))) := by
  obtain ⟨A, c, rfl, hlc, hcm⟩ := h.shape
  unfold maxLen at hcm
  obtain ⟨Z, hZ⟩ : ∃ Z, Z = decide (Unlike l) := ⟨_, rfl⟩
  rw [← hZ]
  have HZ := Lib.hid hZ
  clear hZ
  go_enter Tryd.func17, Tryd.ntmps17
  go_wp2_with fail
  go_loopw [7] (fun i wr => ∃ (m q : Nat), m ≤ l.length ∧ i = .int .i64 m ∧ wr = w.drewN q ∧ Hid (Unlike (l.take m))) (fun i _ => l.length - (intOf i).toNat)
  case atStart => exact ⟨0, 0, Nat.zero_le _, rfl, rfl, Lib.hid (by simp [Unlike])⟩
  case round =>
    obtain ⟨m, q, hm, rfl, rfl, hu⟩ := hrel
    by_cases hgo : m < l.length
    · obtain ⟨p, hpk⟩ : ∃ p, l[m]? = some p := ⟨_, List.getElem?_eq_getElem hgo⟩
      obtain ⟨b, o, rfl, hbb, g1, _⟩ := h.at_ hpk
      have HPK := Lib.hid hpk
      clear hpk
      go_wp2_with fail
      go_loopw [4] (fun i wr => ∃ (j q : Nat), j ≤ m ∧ i = .int .i64 j ∧ wr = w.drewN q ∧ Hid (∀ x ∈ l.take j, (x.1 == p.1) = false)) (fun i _ => m - (intOf i).toNat)
      case atStart => exact ⟨0, q, Nat.zero_le _, rfl, rfl, Lib.hid (by simp)⟩
      case round =>
        obtain ⟨j, q2, hj, rfl, rfl, hx⟩ := hrel
        by_cases hgo2 : j < m
        · obtain ⟨x, hxk⟩ : ∃ x, l[j]? = some x := ⟨_, List.getElem?_eq_getElem (by omega)⟩
          obtain ⟨b', o', hA, _, g2, _⟩ := h.at_ hxk
          injection hA with hA
          injection hA with e1 e2 _
          subst e1; subst e2
          have hjl : (j : Int) < (l.length : Int) := by omega
          have HXK := Lib.hid hxk
          clear hxk
          by_cases he : (x.1 == p.1) = true
          · have hz : Z = false := by
              rw [HZ.out]
              refine decide_eq_false (fun hU => ?_)
              unfold Unlike at hU
              rw [List.Nodup, List.pairwise_map] at hU
              obtain ⟨h1, h2⟩ := List.getElem?_eq_some_iff.1 HXK.out
              obtain ⟨h3, h4⟩ := List.getElem?_eq_some_iff.1 HPK.out
              have := List.pairwise_iff_getElem.1 hU j m h1 h3 hgo2
              rw [h2, h4] at this
              exact this (beq_iff_eq.1 he)
            have HZ2 := Lib.hid hz
            clear hz
            go_wp2_with fail
            go_quiet (fail)
            go_wp2_with fail
            go_ret
            exact Quiet.of (by rw [HZ2.out]; rfl) (drewN_two _ _ _)
          · have he : (x.1 == p.1) = false := by simpa using he
            go_wp2_with fail
            go_quiet (fail)
            go_wp2_with fail
            go_roundw
            case rel =>
              refine ⟨j + 1, _, by omega, by go_num, rfl, Lib.hid (fun y hy => ?_)⟩
              rw [List.take_add_one, HXK.out, List.mem_append] at hy
              rcases hy with hy | hy
              · exact hx.out y hy
              · simp at hy
                subst hy
                exact he
            case measure => simp [intOf]; omega
        · obtain rfl : j = m := by omega
          have HU := Lib.hid (show Unlike (l.take (j + 1)) by
            unfold Unlike
            rw [List.take_add_one, HPK.out, List.map_append, List.nodup_append]
            refine ⟨hu.out, by simp, ?_⟩
            intro a ha b hb
            obtain ⟨y, hy, rfl⟩ := List.mem_map.1 ha
            simp at hb
            subst hb
            have := hx.out y hy
            exact fun e => by rw [beq_eq_false_iff_ne] at this; exact this e)
          clear hgo2 hj
          go_wp2_with fail
          go_roundw
          case rel => exact ⟨j + 1, _, by omega, by go_num, rfl, HU⟩
          case measure => simp [intOf]; omega
    · obtain rfl : m = l.length := by omega
      have hz : Z = true := by rw [HZ.out]; refine decide_eq_true ?_; have := hu.out; rwa [List.take_length] at this
      have HZ2 := Lib.hid hz
      clear hz
      go_wp2_with fail
      go_ret
      exact Quiet.of (by rw [HZ2.out]; rfl) ⟨_, rfl⟩

theorem parse1 : parse [98, 61, 50, 44, 97, 61, 49] = ([([97], [49]), ([98], [50])], 0) := by decide
theorem parse2 : parse [97, 61, 49, 44, 97, 61, 50] = ([], 12) := by decide
theorem parse3 : parse [97] = ([], 3) := by decide

set_option maxHeartbeats 1000000 in
set_option maxRecDepth 10000 in
theorem awake6_any (w : World) : Calls Tryd.prog 14 #[] w (RetBelow w (.bool true)) := by
  have h1 := fun w => parse_any6 [98, 61, 50, 44, 97, 61, 49] w (by decide)
  have h2 := fun w => parse_any6 [97, 61, 49, 44, 97, 61, 50] w (by decide)
  have h3 := fun w => parse_any6 [97] w (by decide)
  unfold RetPs at h1 h2 h3
  rw [parse1] at h1
  rw [parse2] at h2
  rw [parse3] at h3
  have H1 := Lib.hid h1
  have H2 := Lib.hid h2
  have H3 := Lib.hid h3
  have HT := Lib.hid (fun v w (h : PsAt w v [([97], [49]), ([98], [50])]) => (show Calls Tryd.prog 23 #[v] w (RetBelow w (.string (bs [97, 61, 49, 44, 98, 61, 50]))) from text_any6 v _ w h (by decide) (by decide)))
  have HG := Lib.hid (fun v w (h : PsAt w v [([97], [49]), ([98], [50])]) => (show Calls Tryd.prog 19 #[v, .string (bs [98])] w (RetBelow w (.string (bs [50]))) from pget_any v _ [98] w h))
  clear h1 h2 h3
  go_enter Tryd.func14, Tryd.ntmps14
  go_wp2_with fail
  refine (H1.out _).mono ?_
  rintro e w1 ⟨v1, rfl, hn1⟩
  have HN1 := Lib.hid hn1
  clear hn1
  go_wp2_with fail
  refine (H2.out _).mono ?_
  rintro e w2 ⟨v2, rfl, hn2⟩
  have HN2 := Lib.hid (HN1.out.then_below hn2.below)
  clear hn2
  go_wp2_with fail
  refine (H3.out _).mono ?_
  rintro e w3 ⟨v3, rfl, hn3⟩
  have HN3 := Lib.hid (HN2.out.then_below hn3.below)
  clear hn3
  go_wp2_with fail
  refine (HT.out _ _ HN3.out.slice).mono ?_
  rintro e w4 ⟨rfl, hb4⟩
  have HN4 := Lib.hid (HN3.out.then_below hb4)
  clear hb4
  go_wp2_with fail
  refine (HG.out _ _ HN4.out.slice).mono ?_
  rintro e w5 ⟨rfl, hb5⟩
  have HN5 := Lib.hid (HN4.out.then_below hb5)
  clear hb5
  go_wp2_with fail
  go_ret
  exact ⟨rfl, HN5.out.below⟩

end Go.Proofs.YtpjicajifdandaaDoor
