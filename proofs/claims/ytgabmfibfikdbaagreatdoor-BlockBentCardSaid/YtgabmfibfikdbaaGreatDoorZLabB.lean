/-
  Layer 6: the walks of label's Key and Check.
-/
import Derived.Test.YtgabmfibfikdbaaGreatDoorZLib8
import Derived.Deep.RegionWith
import Derived.Test.YtgabmfibfikdbaaGreatDoorZLib5

namespace Go.Proofs.YtgabmfibfikdbaaGreatDoor
open Go.RowKit Go.Bar Go.Bar.Leb Go.Bar.Lab

set_option maxHeartbeats 4000000 in
set_option maxRecDepth 10000 in
theorem key_any (v : Value) (l : List Pr) (w : World) (h : PsAt w v l) (hl : l.length ≤ 1000) (hp : ∀ p ∈ l, p.1.length ≤ 1000000 ∧ p.2.length ≤ 1000000) :
    Calls Tryz.prog 49 #[v] w (RetBelow w (.string (bs (key l)))) := by
  obtain ⟨A, c, rfl, hlc, hcm⟩ := h.shape
  unfold maxLen at hcm
  have hu := u_len l.length (by omega)
  have hconv : IntKind.u64.wrap (l.length : Int) = (l.length : Int) := by rw [IntKind.wrap_u64]; omega
  have HCV := Lib.hid hconv
  clear hconv
  go_enter Tryz.func49, Tryz.ntmps49
  go_wp2_with fail
  refine (uint_any (.slice none 0 0) [] l.length _ (by omega) (by simp) (BBuf.nil _ _)).mono ?_
  rintro e w1 ⟨v1, rfl, h1⟩
  go_wp2_with fail
  go_loopw [12, 3] (fun i b wr => ∃ (k : Nat) (ys : List UInt8), k ≤ l.length ∧ i = .int .i64 k ∧ BApp w (.slice none 0 0) 5 [] wr b ys ∧ ys.length ≤ 10 + k * 2000020 ∧ Hid (ys = u l.length ++ (l.take k).flatMap fun p => tx p.1 ++ tx p.2)) (fun i _ _ => l.length - (intOf i).toNat)
  case atStart => exact ⟨0, _, Nat.zero_le _, rfl, h1, by omega, Lib.hid (by simp)⟩
  case round =>
    clear h1
    obtain ⟨k, ys, hk, rfl, hch, hyl, hy⟩ := hrel
    have hB := hch.nil_below
    by_cases hgo : k < l.length
    · obtain ⟨p, hpk⟩ : ∃ p, l[k]? = some p := ⟨_, List.getElem?_eq_getElem hgo⟩
      obtain ⟨b, o, rfl, hbb, g1, g2⟩ := (h.below hB).at_ hpk
      obtain ⟨hp1, hp2⟩ := hp p (List.mem_of_getElem? hpk)
      have HP := Lib.hid hpk
      clear hpk
      have t1 := text_any
      go_wp2_with fail
      clear g1 g2
      have hck := (Blk.new wr #[.string (bs p.1), .string (bs p.2)] 128).drew
      have hch := (hch.alloc (.cells #[.string (bs p.1), .string (bs p.2)] 128)).drew
      have u1 := u_len p.1.length (by omega)
      have u2 := u_len p.2.length (by omega)
      go_region_with (first
        | (go_at_call 91; ((with_reducible refine (text_any _ _ (bs p.1) _ (by rw [bs_size]; unfold maxLen; omega) (by rw [bs_size]; simp; omega) hch.buf).mono ?_); rintro e w2 ⟨v2, rfl, h2⟩; have hck2 := hck.ap hch.buf h2.ap (by decide); have hch2 := hch.trans h2; have c1 : w2.cell? ⟨wr.heap.size, 1, none⟩ = some (.string (bs p.2)) := hck2.cell (i := 1) rfl; clear h2))
        | (go_at_call 91; ((with_reducible refine (text_any _ _ (bs p.2) _ (by rw [bs_size]; unfold maxLen; omega) (by simp only [bs_size, bs_data, List.nil_append, List.length_append]; omega) hch2.buf).mono ?_); rintro e w3 ⟨v3, rfl, h3⟩; have hch3 := hch2.trans h3; clear h3)))
      all_goals
        go_wp2_with fail
        go_roundw
        case rel =>
          refine ⟨k + 1, _, by omega, by go_num, hch3, by simp only [bs_size, bs_data, List.length_append]; omega, Lib.hid ?_⟩
          rw [hy.out, List.take_add_one, HP.out]
          simp [tx, bs_size, bs_data]
        case measure => simp [intOf]; omega
    · obtain rfl : k = l.length := by omega
      have hz : ys = key l := by rw [hy.out, List.take_length]; rfl
      have hc := hch.buf.string bytes_ty 9 Tryz.underlying9
      rw [List.nil_append, hz] at hc
      clear hz hy
      go_wp2_with fail
      go_ret
      exact ⟨rfl, hB⟩

end Go.Proofs.YtgabmfibfikdbaaGreatDoor

/-
  Layer 6: the walk of label's Check.
-/
namespace Go.Proofs.YtgabmfibfikdbaaGreatDoor
open Go.RowKit Go.Bar Go.Bar.Leb Go.Bar.Lab

/-- Check's answer -/
def errL (l : List Pr) : Int := if chk l = true then 0 else 12
theorem errL_ok {l : List Pr} (h : Ok l) : errL l = 0 := by unfold errL; rw [if_pos (chk_true h)]
theorem errL_no {l : List Pr} (h : ¬ Ok l) : errL l = 12 := by unfold errL; rw [if_neg (by rw [chk_false h]; simp)]
theorem errL_bad {l : List Pr} {k : Nat} (hk : k < l.length) (h : ¬ good l k) : errL l = 12 := errL_no fun h' => h (((ok_iff l).1 h').2.2 k hk)
theorem good_at {l : List Pr} {k : Nat} {p : Pr} (h : l[k]? = some p) : good l k ↔ okP p = true ∧ (0 < k → (l.getD (k - 1) ([], [])).1 < p.1) := by
  unfold good
  rw [show l.getD k ([], []) = p by rw [List.getD_eq_getElem?_getD, h]; rfl]
theorem okP_iff (p : Pr) : okP p = true ↔ nameB p.1 = true ∧ p.2 ≠ [] ∧ p.2.length ≤ 40 := by
  unfold okP
  simp only [Bool.and_eq_true, decide_eq_true_eq, Bool.not_eq_true', List.isEmpty_eq_false_iff]
  constructor
  · rintro ⟨⟨a, b⟩, c⟩; exact ⟨a, b, c⟩
  · rintro ⟨a, b, c⟩; exact ⟨⟨a, b⟩, c⟩

set_option maxHeartbeats 8000000 in
set_option maxRecDepth 10000 in
theorem lcheck_any (v : Value) (l : List Pr) (w : World) (h : PsAt w v l) (hp : ∀ p ∈ l, p.1.length ≤ 1000000000000) :
    Calls Tryz.prog 58 #[v] w (RetBelow w (.int .i64 (errL l))) := by
  obtain ⟨A, c, rfl, hlc, hcm⟩ := h.shape
  unfold maxLen at hcm
  obtain ⟨Z, hZ⟩ : ∃ Z, Z = errL l := ⟨_, rfl⟩
  rw [← hZ]
  have HB := Lib.hid (fun k (hk : k < l.length) (h : ¬ good l k) => hZ.trans (errL_bad hk h))
  have HN := Lib.hid (fun (h : ¬ Ok l) => hZ.trans (errL_no h))
  have HY := Lib.hid (fun (h : Ok l) => hZ.trans (errL_ok h))
  clear hZ
  by_cases h0 : l.length = 0
  · have hz := HN.out (fun h => by have := h.1; omega)
    have hb : ((l.length : Int) == 0) = true := by rw [beq_iff_eq]; omega
    subst hz
    clear h0 HB HN HY
    go_enter Tryz.func58, Tryz.ntmps58
    go_wp2_with fail
    go_ret
    exact ⟨rfl, Below.refl _ _⟩
  · have hb : ((l.length : Int) == 0) = false := by rw [beq_eq_false_iff_ne]; omega
    have h0 : 0 < l.length := by omega
    by_cases h8 : 8 < l.length
    · have hz := HN.out (fun h => by have := h.2.1; omega)
      subst hz
      clear HB HN HY
      go_enter Tryz.func58, Tryz.ntmps58
      go_wp2_with fail
      go_ret
      exact ⟨rfl, Below.refl _ _⟩
    · have h8 : decide (8 < (l.length : Int)) = false := decide_eq_false (by omega)
      go_enter Tryz.func58, Tryz.ntmps58
      go_wp2_with fail
      go_loopw [15] (fun i wr => ∃ k : Nat, k ≤ l.length ∧ i = .int .i64 k ∧ Below w.heap.size w wr ∧ Hid (∀ j, j < k → good l j)) (fun i _ => l.length - (intOf i).toNat)
      case atStart => exact ⟨0, Nat.zero_le _, rfl, Below.refl _ _, Lib.hid (fun j hj => absurd hj (Nat.not_lt_zero j))⟩
      case round =>
        obtain ⟨k, hk, rfl, hbl, hgd⟩ := hrel
        by_cases hgo : k < l.length
        · obtain ⟨p, hpk⟩ : ∃ p, l[k]? = some p := ⟨_, List.getElem?_eq_getElem hgo⟩
          obtain ⟨b, o, rfl, hbb, g1, g2⟩ := (h.below hbl).at_ hpk
          have hpl := hp p (List.mem_of_getElem? hpk)
          have HG := Lib.hid (good_at hpk)
          have hck := (Blk.new wr #[.string (bs p.1), .string (bs p.2)] 128)
          have hgn := goodName_any p.1
          have hbl2 := (below_trans hbl (below_alloc1 wr (.cells #[.string (bs p.1), .string (bs p.2)] 128)))
          rcases hn : nameB p.1 with _ | _
          · have hz := HB.out k hgo (fun h => by have := (okP_iff p).1 (HG.out.1 h).1; rw [hn] at this; exact absurd this.1 (by simp))
            rw [hn] at hgn
            have HGN := Lib.hid hgn
            have HZ := Lib.hid hz
            clear hgn hn hz hpk
            go_wp2_with fail
            refine wp_region_known [(1, .string (bs p.1)), (2, .bool false)] (by kernel_rfl) 51 (by kernel_rfl) rfl ?_
            repeat (first
              | (refine Chain.step (v := ?_) (a' := ?_) rfl rfl rfl ?_ ?_ ?_
                 rotate_left 2
                 focus (intro w; go_simp; try with_reducible rfl)
                 focus (simp only [Act.put, List.setIfInBounds_toArray, List.set_cons_succ, List.set_cons_zero]; try rfl))
              | (refine Chain.call (a' := ?_) _ rfl rfl rfl (fun wx hw => ?_) ?_ ?_
                 rotate_left 1
                 focus
                   first
                   | (have y0 := (hck.below hw).cell (i := 0) rfl; have y1 := (hck.below hw).cell (i := 1) rfl; go_simp; first | exact ⟨rfl, Below.refl _ _⟩ | exact Below.refl _ _)
                   | (go_simp; ((with_reducible refine (HGN.out _ hpl).mono ?_); rintro e w2 ⟨rfl, h2⟩; exact ⟨rfl, h2⟩))
                 focus (simp only [Act.put, List.setIfInBounds_toArray, List.set_cons_succ, List.set_cons_zero]; try rfl))
              | (refine Chain.skip (a' := ?_) rfl rfl rfl ?_ ?_
                 rotate_left 1
                 focus (simp only [Act.put, List.setIfInBounds_toArray, List.set_cons_succ, List.set_cons_zero]; try rfl)))
            refine Chain.end_ (fun wz hwz _ => ?_)
            go_wp2_with fail
            go_ret
            exact ⟨by rw [HZ.out]; rfl, below_trans hbl2 hwz⟩
          · have HN2 := Lib.hid hn
            rw [hn] at hgn
            have HGN := Lib.hid hgn
            by_cases he : p.2 = []
            · have hz := HB.out k hgo (fun h => ((okP_iff p).1 (HG.out.1 h).1).2.1 he)
              have HZ := Lib.hid hz
              have hb1 : (p.2 == []) = true := by rw [beq_iff_eq]; exact he
              have hb2 : p.2.isEmpty = true := by rw [he]; rfl
              clear hgn hn hz hpk he
              go_wp2_with fail
              refine wp_region_known [(1, .string (bs p.1)), (2, .bool true), (6, .string (bs p.2))] (by kernel_rfl) 51 (by kernel_rfl) rfl ?_
              repeat (first
                | (refine Chain.step (v := ?_) (a' := ?_) rfl rfl rfl ?_ ?_ ?_
                   rotate_left 2
                   focus (intro w; go_simp; try with_reducible rfl)
                   focus (simp only [Act.put, List.setIfInBounds_toArray, List.set_cons_succ, List.set_cons_zero]; try rfl))
                | (refine Chain.call (a' := ?_) _ rfl rfl rfl (fun wx hw => ?_) ?_ ?_
                   rotate_left 1
                   focus
                     first
                     | (have y0 := (hck.below hw).cell (i := 0) rfl; have y1 := (hck.below hw).cell (i := 1) rfl; go_simp; first | exact ⟨rfl, Below.refl _ _⟩ | exact Below.refl _ _)
                     | (go_simp; ((with_reducible refine (HGN.out _ hpl).mono ?_); rintro e w2 ⟨rfl, h2⟩; exact ⟨rfl, h2⟩))
                   focus (simp only [Act.put, List.setIfInBounds_toArray, List.set_cons_succ, List.set_cons_zero]; try rfl))
                | (refine Chain.skip (a' := ?_) rfl rfl rfl ?_ ?_
                   rotate_left 1
                   focus (simp only [Act.put, List.setIfInBounds_toArray, List.set_cons_succ, List.set_cons_zero]; try rfl)))
              refine Chain.end_ (fun wz hwz _ => ?_)
              go_wp2_with fail
              go_ret
              exact ⟨by rw [HZ.out]; rfl, below_trans hbl2 hwz⟩
            · have hb1 : (p.2 == []) = false := by rw [beq_eq_false_iff_ne]; exact he
              have hb2 : p.2.isEmpty = false := by rw [List.isEmpty_eq_false_iff]; exact he
              by_cases hl4 : p.2.length ≤ 40
              · have hd4 : decide (40 < (p.2.length : Int)) = false := decide_eq_false (by omega)
                have HOK := Lib.hid ((okP_iff p).2 ⟨hn, he, hl4⟩)
                clear hgn hn he
                rcases k with _ | j
                · have HGD := Lib.hid (show ∀ j, j < 0 + 1 → good l j from fun j hj => by
                    obtain rfl : j = 0 := by omega
                    exact HG.out.2 ⟨HOK.out, fun h => absurd h (Nat.lt_irrefl _)⟩)
                  clear hpk hgd hl4
                  simp only [Nat.zero_mul, Nat.add_zero] at g1 g2
                  go_wp2_with fail
                  refine wp_region_known [(1, .string (bs p.1)), (2, .bool true), (6, .string (bs p.2)), (11, .string (bs p.2))] (by kernel_rfl) 51 (by kernel_rfl) rfl ?_
                  repeat (first
                    | (refine Chain.step (v := ?_) (a' := ?_) rfl rfl rfl ?_ ?_ ?_
                       rotate_left 2
                       focus (intro w; go_simp; try with_reducible rfl)
                       focus (simp only [Act.put, List.setIfInBounds_toArray, List.set_cons_succ, List.set_cons_zero]; try rfl))
                    | (refine Chain.call (a' := ?_) _ rfl rfl rfl (fun wx hw => ?_) ?_ ?_
                       rotate_left 1
                       focus
                         first
                         | (have y0 := (hck.below hw).cell (i := 0) rfl; have y1 := (hck.below hw).cell (i := 1) rfl; go_simp; first | exact ⟨rfl, Below.refl _ _⟩ | exact Below.refl _ _)
                         | (go_simp; ((with_reducible refine (HGN.out _ hpl).mono ?_); rintro e w2 ⟨rfl, h2⟩; exact ⟨rfl, h2⟩))
                       focus (simp only [Act.put, List.setIfInBounds_toArray, List.set_cons_succ, List.set_cons_zero]; try rfl))
                    | (refine Chain.skip (a' := ?_) rfl rfl rfl ?_ ?_
                       rotate_left 1
                       focus (simp only [Act.put, List.setIfInBounds_toArray, List.set_cons_succ, List.set_cons_zero]; try rfl)))
                  refine Chain.end_ (fun wz hwz _ => ?_)
                  go_wp2_with fail
                  go_roundw
                  case rel => exact ⟨0 + 1, by omega, by go_num, below_trans hbl2 hwz, HGD⟩
                  case measure => simp [intOf]; omega
                · obtain ⟨q, hqk⟩ : ∃ q, l[j]? = some q := ⟨_, List.getElem?_eq_getElem (by omega)⟩
                  obtain ⟨b', o', hA, _, q1, _⟩ := (h.below hbl2).at_ hqk
                  injection hA with hA
                  injection hA with hA1 hA2 _
                  subst hA1; subst hA2
                  have HQ := Lib.hid q1
                  have hgq : (l.getD (j + 1 - 1) ([], [])).1 = q.1 := by rw [Nat.add_sub_cancel, List.getD_eq_getElem?_getD, hqk]; rfl
                  have hjw : IntKind.i64.wrap (j : Int) = (j : Int) := IntWalk.i64_in _ ⟨by omega, by omega⟩
                  have hjl : (j : Int) < (l.length : Int) := by omega
                  have hj0 : decide (0 < ((j : Int) + 1)) = true := decide_eq_true (by omega)
                  clear q1 hqk hpk
                  by_cases hlt : q.1 < p.1
                  · have hls : Op.bytesLess q.1 p.1 = true := by rw [less_eq]; exact decide_eq_true hlt
                    have HGD := Lib.hid (show ∀ i, i < j + 1 + 1 → good l i from fun i hi => by
                      by_cases hij : i < j + 1
                      · exact hgd.out i hij
                      · obtain rfl : i = j + 1 := by omega
                        exact HG.out.2 ⟨HOK.out, fun _ => by rw [hgq]; exact hlt⟩)
                    clear hgd hgq hlt hl4
                    go_wp2_with fail
                    refine wp_region_known [(1, .string (bs p.1)), (2, .bool true), (6, .string (bs p.2)), (11, .string (bs p.2)), (24, .string (bs q.1)), (26, .string (bs p.1))] (by kernel_rfl) 51 (by kernel_rfl) rfl ?_
                    repeat (first
                      | (refine Chain.step (v := ?_) (a' := ?_) rfl rfl rfl ?_ ?_ ?_
                         rotate_left 2
                         focus (intro w; go_simp; try with_reducible rfl)
                         focus (simp only [Act.put, List.setIfInBounds_toArray, List.set_cons_succ, List.set_cons_zero]; try rfl))
                      | (refine Chain.call (a' := ?_) _ rfl rfl rfl (fun wx hw => ?_) ?_ ?_
                         rotate_left 1
                         focus
                           first
                           | (have y0 := (hck.below hw).cell (i := 0) rfl; have y1 := (hck.below hw).cell (i := 1) rfl; have y2 := (hw.cell (p := ⟨b, o + j * 2, none⟩) (World.block_lt_of_cell? _ _ HQ.out)).trans HQ.out; go_simp; first | exact ⟨rfl, Below.refl _ _⟩ | exact Below.refl _ _)
                           | (go_simp; ((with_reducible refine (HGN.out _ hpl).mono ?_); rintro e w2 ⟨rfl, h2⟩; exact ⟨rfl, h2⟩))
                         focus (simp only [Act.put, List.setIfInBounds_toArray, List.set_cons_succ, List.set_cons_zero]; try rfl))
                      | (refine Chain.skip (a' := ?_) rfl rfl rfl ?_ ?_
                         rotate_left 1
                         focus (simp only [Act.put, List.setIfInBounds_toArray, List.set_cons_succ, List.set_cons_zero]; try rfl)))
                    refine Chain.end_ (fun wz hwz _ => ?_)
                    go_wp2_with fail
                    go_roundw
                    case rel => exact ⟨j + 1 + 1, by omega, by go_num, below_trans hbl2 hwz, HGD⟩
                    case measure => simp [intOf]; omega
                  · have hls : Op.bytesLess q.1 p.1 = false := by rw [less_eq]; exact decide_eq_false hlt
                    have HZ := Lib.hid (HB.out (j + 1) hgo (fun h => hlt (by have := (HG.out.1 h).2 (by omega); rwa [hgq] at this)))
                    clear hgd hgq hlt hl4
                    go_wp2_with fail
                    refine wp_region_known [(1, .string (bs p.1)), (2, .bool true), (6, .string (bs p.2)), (11, .string (bs p.2)), (24, .string (bs q.1)), (26, .string (bs p.1))] (by kernel_rfl) 51 (by kernel_rfl) rfl ?_
                    repeat (first
                      | (refine Chain.step (v := ?_) (a' := ?_) rfl rfl rfl ?_ ?_ ?_
                         rotate_left 2
                         focus (intro w; go_simp; try with_reducible rfl)
                         focus (simp only [Act.put, List.setIfInBounds_toArray, List.set_cons_succ, List.set_cons_zero]; try rfl))
                      | (refine Chain.call (a' := ?_) _ rfl rfl rfl (fun wx hw => ?_) ?_ ?_
                         rotate_left 1
                         focus
                           first
                           | (have y0 := (hck.below hw).cell (i := 0) rfl; have y1 := (hck.below hw).cell (i := 1) rfl; have y2 := (hw.cell (p := ⟨b, o + j * 2, none⟩) (World.block_lt_of_cell? _ _ HQ.out)).trans HQ.out; go_simp; first | exact ⟨rfl, Below.refl _ _⟩ | exact Below.refl _ _)
                           | (go_simp; ((with_reducible refine (HGN.out _ hpl).mono ?_); rintro e w2 ⟨rfl, h2⟩; exact ⟨rfl, h2⟩))
                         focus (simp only [Act.put, List.setIfInBounds_toArray, List.set_cons_succ, List.set_cons_zero]; try rfl))
                      | (refine Chain.skip (a' := ?_) rfl rfl rfl ?_ ?_
                         rotate_left 1
                         focus (simp only [Act.put, List.setIfInBounds_toArray, List.set_cons_succ, List.set_cons_zero]; try rfl)))
                    refine Chain.end_ (fun wz hwz _ => ?_)
                    go_wp2_with fail
                    go_ret
                    exact ⟨by rw [HZ.out]; rfl, below_trans hbl2 hwz⟩
              · have hd4 : decide (40 < (p.2.length : Int)) = true := decide_eq_true (by omega)
                have HZ := Lib.hid (HB.out k hgo (fun h => hl4 ((okP_iff p).1 (HG.out.1 h).1).2.2))
                clear hgn hn hpk he hl4
                go_wp2_with fail
                refine wp_region_known [(1, .string (bs p.1)), (2, .bool true), (6, .string (bs p.2)), (11, .string (bs p.2))] (by kernel_rfl) 51 (by kernel_rfl) rfl ?_
                repeat (first
                  | (refine Chain.step (v := ?_) (a' := ?_) rfl rfl rfl ?_ ?_ ?_
                     rotate_left 2
                     focus (intro w; go_simp; try with_reducible rfl)
                     focus (simp only [Act.put, List.setIfInBounds_toArray, List.set_cons_succ, List.set_cons_zero]; try rfl))
                  | (refine Chain.call (a' := ?_) _ rfl rfl rfl (fun wx hw => ?_) ?_ ?_
                     rotate_left 1
                     focus
                       first
                       | (have y0 := (hck.below hw).cell (i := 0) rfl; have y1 := (hck.below hw).cell (i := 1) rfl; go_simp; first | exact ⟨rfl, Below.refl _ _⟩ | exact Below.refl _ _)
                       | (go_simp; ((with_reducible refine (HGN.out _ hpl).mono ?_); rintro e w2 ⟨rfl, h2⟩; exact ⟨rfl, h2⟩))
                     focus (simp only [Act.put, List.setIfInBounds_toArray, List.set_cons_succ, List.set_cons_zero]; try rfl))
                  | (refine Chain.skip (a' := ?_) rfl rfl rfl ?_ ?_
                     rotate_left 1
                     focus (simp only [Act.put, List.setIfInBounds_toArray, List.set_cons_succ, List.set_cons_zero]; try rfl)))
                refine Chain.end_ (fun wz hwz _ => ?_)
                go_wp2_with fail
                go_ret
                exact ⟨by rw [HZ.out]; rfl, below_trans hbl2 hwz⟩
        · obtain rfl : k = l.length := by omega
          have HZ := Lib.hid (HY.out ((ok_iff l).2 ⟨h0, by have := of_decide_eq_false h8; omega, hgd.out⟩))
          go_wp2_with fail
          go_ret
          exact ⟨by rw [HZ.out]; rfl, hbl⟩

end Go.Proofs.YtgabmfibfikdbaaGreatDoor
