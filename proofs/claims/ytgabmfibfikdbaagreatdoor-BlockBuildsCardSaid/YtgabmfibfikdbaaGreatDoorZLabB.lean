/-
 Layer 6: the walks of label's Key and Check.
-/
import Derived.Test.YtgabmfibfikdbaaGreatDoorZIdtA
import Derived.Deep.RegionWith
import Derived.Test.YtgabmfibfikdbaaGreatDoorZLib5
import Derived.Shelf.Small.Bits
import Derived.Shelf.Small.Strs
import Derived.Shelf.Strconv.Itoa0
import Derived.Shelf.Strings.Search1
import Derived.Shelf.Strings.Search2
import Derived.Shelf.Strings.Search3
import Derived.Shelf.Strings.Cut
import Derived.Shelf.LaysM
import Derived.Shelf.Strings.Shaped
import Derived.Shelf.Unicode.DecodeSlow
import Derived.Ground.SlgnProg
import Derived.Shelf.SlicesE.Clone
import Derived.Test.YtgabmfibfikdbaaGreatDoorProg
import Derived.Shelf.SlGeneric
import Derived.Ground.SlsfProg
import Derived.Shelf.SlSortCmp.WholeK
import Derived.Test.YtgabmfibfikdbaaGreatDoorZLib13
import Derived.Lib.LazyBuf
import Derived.Test.YtgabmfibfikdbaaGreatDoorZLib9
import Derived.Test.YtgabmfibfikdbaaGreatDoorZBokM
import Derived.Lib.Builder
import Derived.Lib.AppendStr
import Derived.Laws.Externs

set_option maxHeartbeats 32000000
set_option maxRecDepth 10000
namespace Go.Proofs.YtgabmfibfikdbaaGreatDoor
open Go.RowKit Go.Bar Go.Bar.Leb Go.Bar.Lab

theorem key_any (v : Value) (l : List Pr) (w : World) (h : PsAt w v l) (hl : l.length <= 1000) (hp : ∀ p ∈ l, p.1.length <= 1000000 /\ p.2.length <= 1000000) :
  Calls Tryz.prog 49 #[v] w (RetBelow w (.string (bs (key l)))) := by
 obtain ⟨A, c, rfl, hlc, hcm⟩ := h.shape
 unfold maxLen at hcm
 have hu := u_len l.length (by omega)
 have hconv : IntKind.u64.wrap (l.length : Int) = (l.length : Int) := by rw [IntKind.wrap_u64]; omega
 have HCV := Lib.hid hconv
 clear hconv
 go_enter Tryz.func49, Tryz.ntmps49
 go_wp2_with fail
 refine (uint_any (.slice none 0 0) [] l.length _ (by omega) (by simp) (BBuf.nil _ _)).mono ?_
 rintro e w1 ⟨v1, rfl, h1⟩
 go_wp2_with fail
 go_loopw [12, 3] (fun i b wr => ∃ (k : Nat) (ys : List UInt8), k <= l.length /\ i = .int .i64 k /\ BApp w (.slice none 0 0) 5 [] wr b ys /\ ys.length <= 10 + k * 2000020 /\ Hid (ys = u l.length ++ (l.take k).flatMap fun p => tx p.1 ++ tx p.2)) (fun i _ _ => l.length - (intOf i).toNat)
 case atStart => exact ⟨0, _, Nat.zero_le _, rfl, h1, by omega, Lib.hid (by simp)⟩
 case round =>
  clear h1
  obtain ⟨k, ys, hk, rfl, hch, hyl, hy⟩ := hrel
  have hB := hch.nil_below
  by_cases hgo : k < l.length
  ·obtain ⟨p, hpk⟩ : ∃ p, l[k]? = some p := ⟨_, List.getElem?_eq_getElem hgo⟩
   obtain ⟨b, o, rfl, hbb, g1, g2⟩ := (h.below hB).at_ hpk
   obtain ⟨hp1, hp2⟩ := hp p (List.mem_of_getElem? hpk)
   have HP := Lib.hid hpk
   clear hpk
   have t1 := text_any
   go_wp2_with fail
   clear g1 g2
   have hck := (Blk.new wr #[.string (bs p.1), .string (bs p.2)] 128).drew
   have hch := (hch.alloc (.cells #[.string (bs p.1), .string (bs p.2)] 128)).drew
   have u1 := u_len p.1.length (by omega)
   have u2 := u_len p.2.length (by omega)
   go_region_with (first
    | (go_at_call 91; ((with_reducible refine (text_any _ _ (bs p.1) _ (by rw [bs_size]; unfold maxLen; omega) (by rw [bs_size]; simp; omega) hch.buf).mono ?_); rintro e w2 ⟨v2, rfl, h2⟩; have hck2 := hck.ap hch.buf h2.ap (by decide); have hch2 := hch.trans h2; have c1 : w2.cell? ⟨wr.heap.size, 1, none⟩ = some (.string (bs p.2)) := hck2.cell (i := 1) rfl; clear h2))
    | (go_at_call 91; ((with_reducible refine (text_any _ _ (bs p.2) _ (by rw [bs_size]; unfold maxLen; omega) (by simp only [bs_size, bs_data, List.nil_append, List.length_append]; omega) hch2.buf).mono ?_); rintro e w3 ⟨v3, rfl, h3⟩; have hch3 := hch2.trans h3; clear h3)))
   all_goals
    go_wp2_with fail
    go_roundw
    case rel =>
     refine ⟨k + 1, _, by omega, by go_num, hch3, by simp only [bs_size, bs_data, List.length_append]; omega, Lib.hid ?_⟩
     rw [hy.out, List.take_add_one, HP.out]
     simp [tx, bs_size, bs_data]
    case measure => simp [intOf]; omega
  ·obtain rfl : k = l.length := by omega
   have hz : ys = key l := by rw [hy.out, List.take_length]; rfl
   have hc := hch.buf.string bytes_ty 9 Tryz.underlying9
   rw [List.nil_append, hz] at hc
   clear hz hy
   go_wp2_with fail
   go_ret
   exact ⟨rfl, hB⟩

end Go.Proofs.YtgabmfibfikdbaaGreatDoor

set_option maxHeartbeats 32000000
set_option maxRecDepth 10000
namespace Go.Proofs.YtgabmfibfikdbaaGreatDoor
open Go.RowKit Go.Bar Go.Bar.Leb Go.Bar.Lab

def errL (l : List Pr) : Int := if chk l = true then 0 else 12
theorem errL_ok {l : List Pr} (h : Ok l) : errL l = 0 := by unfold errL; rw [if_pos (chk_true h)]
theorem errL_no {l : List Pr} (h : ¬ Ok l) : errL l = 12 := by unfold errL; rw [if_neg (by rw [chk_false h]; simp)]
theorem errL_bad {l : List Pr} {k : Nat} (hk : k < l.length) (h : ¬ good l k) : errL l = 12 := errL_no fun h' => h (((ok_iff l).1 h').2.2 k hk)
theorem good_at {l : List Pr} {k : Nat} {p : Pr} (h : l[k]? = some p) : good l k ↔ okP p = true /\ (0 < k -> (l.getD (k - 1) ([], [])).1 < p.1) := by
  unfold good
  rw [show l.getD k ([], []) = p by rw [List.getD_eq_getElem?_getD, h]; rfl]
theorem okP_iff (p : Pr) : okP p = true ↔ nameB p.1 = true /\ p.2 ≠ [] /\ p.2.length <= 40 := by
  unfold okP
  simp only [Bool.and_eq_true, decide_eq_true_eq, Bool.not_eq_true', List.isEmpty_eq_false_iff]
  constructor
  · rintro ⟨⟨a, b⟩, c⟩; exact ⟨a, b, c⟩
  · rintro ⟨a, b, c⟩; exact ⟨⟨a, b⟩, c⟩

theorem lcheck_any (v : Value) (l : List Pr) (w : World) (h : PsAt w v l) (hp : ∀ p ∈ l, p.1.length <= 1000000000000) :
    Calls Tryz.prog 58 #[v] w (RetBelow w (.int .i64 (errL l))) := by
  obtain ⟨A, c, rfl, hlc, hcm⟩ := h.shape
  unfold maxLen at hcm
  obtain ⟨Z, hZ⟩ : ∃ Z, Z = errL l := ⟨_, rfl⟩
  rw [<- hZ]
  have HB := Lib.hid (fun k (hk : k < l.length) (h : ¬ good l k) => hZ.trans (errL_bad hk h))
  have HN := Lib.hid (fun (h : ¬ Ok l) => hZ.trans (errL_no h))
  have HY := Lib.hid (fun (h : Ok l) => hZ.trans (errL_ok h))
  clear hZ
  by_cases h0 : l.length = 0
  · have hz := HN.out (fun h => by have := h.1; omega)
    have hb : ((l.length : Int) == 0) = true := by rw [beq_iff_eq]; omega
    subst hz
    clear h0 HB HN HY
    go_enter Tryz.func58, Tryz.ntmps58
    go_wp2_with fail
    go_ret
    exact ⟨rfl, Below.refl _ _⟩
  · have hb : ((l.length : Int) == 0) = false := by rw [beq_eq_false_iff_ne]; omega
    have h0 : 0 < l.length := by omega
    by_cases h8 : 8 < l.length
    · have hz := HN.out (fun h => by have := h.2.1; omega)
      subst hz
      clear HB HN HY
      go_enter Tryz.func58, Tryz.ntmps58
      go_wp2_with fail
      go_ret
      exact ⟨rfl, Below.refl _ _⟩
    · have h8 : decide (8 < (l.length : Int)) = false := decide_eq_false (by omega)
      go_enter Tryz.func58, Tryz.ntmps58
      go_wp2_with fail
      go_loopw [15] (fun i wr => ∃ k : Nat, k <= l.length /\ i = .int .i64 k /\ Below w.heap.size w wr /\ Hid (∀ j, j < k -> good l j)) (fun i _ => l.length - (intOf i).toNat)
      case atStart => exact ⟨0, Nat.zero_le _, rfl, Below.refl _ _, Lib.hid (fun j hj => absurd hj (Nat.not_lt_zero j))⟩
      case round =>
        obtain ⟨k, hk, rfl, hbl, hgd⟩ := hrel
        by_cases hgo : k < l.length
        · obtain ⟨p, hpk⟩ : ∃ p, l[k]? = some p := ⟨_, List.getElem?_eq_getElem hgo⟩
          obtain ⟨b, o, rfl, hbb, g1, g2⟩ := (h.below hbl).at_ hpk
          have hpl := hp p (List.mem_of_getElem? hpk)
          have HG := Lib.hid (good_at hpk)
          have hck := (Blk.new wr #[.string (bs p.1), .string (bs p.2)] 128)
          have hgn := goodName_any p.1
          have hbl2 := (below_trans hbl (below_alloc1 wr (.cells #[.string (bs p.1), .string (bs p.2)] 128)))
          rcases hn : nameB p.1 with _ | _
          · have hz := HB.out k hgo (fun h => by have := (okP_iff p).1 (HG.out.1 h).1; rw [hn] at this; exact absurd this.1 (by simp))
            rw [hn] at hgn
            have HGN := Lib.hid hgn
            have HZ := Lib.hid hz
            clear hgn hn hz hpk
            go_wp2_with fail
            refine wp_region_known [(1, .string (bs p.1)), (2, .bool false)] (by kernel_rfl) 51 (by kernel_rfl) rfl ?_
            repeat (first
              | (refine Chain.step (v := ?_) (a' := ?_) rfl rfl rfl ?_ ?_ ?_; rotate_left 2; (focus (intro w; go_simp; try with_reducible rfl)); focus (simp only [Act.put, pqA, pqS, pqZ]; try rfl))
              | (refine Chain.call (a' := ?_) _ rfl rfl rfl (fun wx hw => ?_) ?_ ?_
                 rotate_left 1
                 focus
                   first
                   | (have y0 := (hck.below hw).cell (i := 0) rfl; have y1 := (hck.below hw).cell (i := 1) rfl; go_simp; first | exact ⟨rfl, Below.refl _ _⟩ | exact Below.refl _ _)
                   | (go_simp; ((with_reducible refine (HGN.out _ hpl).mono ?_); rintro e w2 ⟨rfl, h2⟩; exact ⟨rfl, h2⟩))
                 focus (simp only [Act.put, pqA, pqS, pqZ]; try rfl))
              | (refine Chain.skip (a' := ?_) rfl rfl rfl ?_ ?_; rotate_left 1; focus (simp only [Act.put, pqA, pqS, pqZ]; try rfl)))
            refine Chain.end_ (fun wz hwz _ => ?_)
            go_wp2_with fail
            go_ret
            exact ⟨by rw [HZ.out]; rfl, below_trans hbl2 hwz⟩
          · have HN2 := Lib.hid hn
            rw [hn] at hgn
            have HGN := Lib.hid hgn
            by_cases he : p.2 = []
            · have hz := HB.out k hgo (fun h => ((okP_iff p).1 (HG.out.1 h).1).2.1 he)
              have HZ := Lib.hid hz
              have hb1 : (p.2 == []) = true := by rw [beq_iff_eq]; exact he
              have hb2 : p.2.isEmpty = true := by rw [he]; rfl
              clear hgn hn hz hpk he
              go_wp2_with fail
              refine wp_region_known [(1, .string (bs p.1)), (2, .bool true), (6, .string (bs p.2))] (by kernel_rfl) 51 (by kernel_rfl) rfl ?_
              repeat (first
                | (refine Chain.step (v := ?_) (a' := ?_) rfl rfl rfl ?_ ?_ ?_; rotate_left 2; (focus (intro w; go_simp; try with_reducible rfl)); focus (simp only [Act.put, pqA, pqS, pqZ]; try rfl))
                | (refine Chain.call (a' := ?_) _ rfl rfl rfl (fun wx hw => ?_) ?_ ?_
                   rotate_left 1
                   focus
                     first
                     | (have y0 := (hck.below hw).cell (i := 0) rfl; have y1 := (hck.below hw).cell (i := 1) rfl; go_simp; first | exact ⟨rfl, Below.refl _ _⟩ | exact Below.refl _ _)
                     | (go_simp; ((with_reducible refine (HGN.out _ hpl).mono ?_); rintro e w2 ⟨rfl, h2⟩; exact ⟨rfl, h2⟩))
                   focus (simp only [Act.put, pqA, pqS, pqZ]; try rfl))
                | (refine Chain.skip (a' := ?_) rfl rfl rfl ?_ ?_; rotate_left 1; focus (simp only [Act.put, pqA, pqS, pqZ]; try rfl)))
              refine Chain.end_ (fun wz hwz _ => ?_)
              go_wp2_with fail
              go_ret
              exact ⟨by rw [HZ.out]; rfl, below_trans hbl2 hwz⟩
            · have hb1 : (p.2 == []) = false := by rw [beq_eq_false_iff_ne]; exact he
              have hb2 : p.2.isEmpty = false := by rw [List.isEmpty_eq_false_iff]; exact he
              by_cases hl4 : p.2.length <= 40
              · have hd4 : decide (40 < (p.2.length : Int)) = false := decide_eq_false (by omega)
                have HOK := Lib.hid ((okP_iff p).2 ⟨hn, he, hl4⟩)
                clear hgn hn he
                rcases k with _ | j
                · have HGD := Lib.hid (show ∀ j, j < 0 + 1 -> good l j from fun j hj => by
                    obtain rfl : j = 0 := by omega
                    exact HG.out.2 ⟨HOK.out, fun h => absurd h (Nat.lt_irrefl _)⟩)
                  clear hpk hgd hl4
                  simp only [Nat.zero_mul, Nat.add_zero] at g1 g2
                  go_wp2_with fail
                  refine wp_region_known [(1, .string (bs p.1)), (2, .bool true), (6, .string (bs p.2)), (11, .string (bs p.2))] (by kernel_rfl) 51 (by kernel_rfl) rfl ?_
                  repeat (first
                    | (refine Chain.step (v := ?_) (a' := ?_) rfl rfl rfl ?_ ?_ ?_; rotate_left 2; (focus (intro w; go_simp; try with_reducible rfl)); focus (simp only [Act.put, pqA, pqS, pqZ]; try rfl))
                    | (refine Chain.call (a' := ?_) _ rfl rfl rfl (fun wx hw => ?_) ?_ ?_
                       rotate_left 1
                       focus
                         first
                         | (have y0 := (hck.below hw).cell (i := 0) rfl; have y1 := (hck.below hw).cell (i := 1) rfl; go_simp; first | exact ⟨rfl, Below.refl _ _⟩ | exact Below.refl _ _)
                         | (go_simp; ((with_reducible refine (HGN.out _ hpl).mono ?_); rintro e w2 ⟨rfl, h2⟩; exact ⟨rfl, h2⟩))
                       focus (simp only [Act.put, pqA, pqS, pqZ]; try rfl))
                    | (refine Chain.skip (a' := ?_) rfl rfl rfl ?_ ?_; rotate_left 1; focus (simp only [Act.put, pqA, pqS, pqZ]; try rfl)))
                  refine Chain.end_ (fun wz hwz _ => ?_)
                  go_wp2_with fail
                  go_roundw
                  case rel => exact ⟨0 + 1, by omega, by go_num, below_trans hbl2 hwz, HGD⟩
                  case measure => simp [intOf]; omega
                · obtain ⟨q, hqk⟩ : ∃ q, l[j]? = some q := ⟨_, List.getElem?_eq_getElem (by omega)⟩
                  obtain ⟨b', o', hA, _, q1, _⟩ := (h.below hbl2).at_ hqk
                  injection hA with hA
                  injection hA with hA1 hA2 _
                  subst hA1; subst hA2
                  have HQ := Lib.hid q1
                  have hgq : (l.getD (j + 1 - 1) ([], [])).1 = q.1 := by rw [Nat.add_sub_cancel, List.getD_eq_getElem?_getD, hqk]; rfl
                  have hjw : IntKind.i64.wrap (j : Int) = (j : Int) := IntWalk.i64_in _ ⟨by omega, by omega⟩
                  have hjl : (j : Int) < (l.length : Int) := by omega
                  have hj0 : decide (0 < ((j : Int) + 1)) = true := decide_eq_true (by omega)
                  clear q1 hqk hpk
                  by_cases hlt : q.1 < p.1
                  · have hls : Op.bytesLess q.1 p.1 = true := by rw [less_eq]; exact decide_eq_true hlt
                    have HGD := Lib.hid (show ∀ i, i < j + 1 + 1 -> good l i from fun i hi => by
                      by_cases hij : i < j + 1
                      · exact hgd.out i hij
                      · obtain rfl : i = j + 1 := by omega
                        exact HG.out.2 ⟨HOK.out, fun _ => by rw [hgq]; exact hlt⟩)
                    clear hgd hgq hlt hl4
                    go_wp2_with fail
                    refine wp_region_known [(1, .string (bs p.1)), (2, .bool true), (6, .string (bs p.2)), (11, .string (bs p.2)), (24, .string (bs q.1)), (26, .string (bs p.1))] (by kernel_rfl) 51 (by kernel_rfl) rfl ?_
                    repeat (first
                      | (refine Chain.step (v := ?_) (a' := ?_) rfl rfl rfl ?_ ?_ ?_; rotate_left 2; (focus (intro w; go_simp; try with_reducible rfl)); focus (simp only [Act.put, pqA, pqS, pqZ]; try rfl))
                      | (refine Chain.call (a' := ?_) _ rfl rfl rfl (fun wx hw => ?_) ?_ ?_
                         rotate_left 1
                         focus
                           first
                           | (have y0 := (hck.below hw).cell (i := 0) rfl; have y1 := (hck.below hw).cell (i := 1) rfl; have y2 := (hw.cell (p := ⟨b, o + j * 2, none⟩) (World.block_lt_of_cell? _ _ HQ.out)).trans HQ.out; go_simp; first | exact ⟨rfl, Below.refl _ _⟩ | exact Below.refl _ _)
                           | (go_simp; ((with_reducible refine (HGN.out _ hpl).mono ?_); rintro e w2 ⟨rfl, h2⟩; exact ⟨rfl, h2⟩))
                         focus (simp only [Act.put, pqA, pqS, pqZ]; try rfl))
                      | (refine Chain.skip (a' := ?_) rfl rfl rfl ?_ ?_; rotate_left 1; focus (simp only [Act.put, pqA, pqS, pqZ]; try rfl)))
                    refine Chain.end_ (fun wz hwz _ => ?_)
                    go_wp2_with fail
                    go_roundw
                    case rel => exact ⟨j + 1 + 1, by omega, by go_num, below_trans hbl2 hwz, HGD⟩
                    case measure => simp [intOf]; omega
                  · have hls : Op.bytesLess q.1 p.1 = false := by rw [less_eq]; exact decide_eq_false hlt
                    have HZ := Lib.hid (HB.out (j + 1) hgo (fun h => hlt (by have := (HG.out.1 h).2 (by omega); rwa [hgq] at this)))
                    clear hgd hgq hlt hl4
                    go_wp2_with fail
                    refine wp_region_known [(1, .string (bs p.1)), (2, .bool true), (6, .string (bs p.2)), (11, .string (bs p.2)), (24, .string (bs q.1)), (26, .string (bs p.1))] (by kernel_rfl) 51 (by kernel_rfl) rfl ?_
                    repeat (first
                      | (refine Chain.step (v := ?_) (a' := ?_) rfl rfl rfl ?_ ?_ ?_; rotate_left 2; (focus (intro w; go_simp; try with_reducible rfl)); focus (simp only [Act.put, pqA, pqS, pqZ]; try rfl))
                      | (refine Chain.call (a' := ?_) _ rfl rfl rfl (fun wx hw => ?_) ?_ ?_
                         rotate_left 1
                         focus
                           first
                           | (have y0 := (hck.below hw).cell (i := 0) rfl; have y1 := (hck.below hw).cell (i := 1) rfl; have y2 := (hw.cell (p := ⟨b, o + j * 2, none⟩) (World.block_lt_of_cell? _ _ HQ.out)).trans HQ.out; go_simp; first | exact ⟨rfl, Below.refl _ _⟩ | exact Below.refl _ _)
                           | (go_simp; ((with_reducible refine (HGN.out _ hpl).mono ?_); rintro e w2 ⟨rfl, h2⟩; exact ⟨rfl, h2⟩))
                         focus (simp only [Act.put, pqA, pqS, pqZ]; try rfl))
                      | (refine Chain.skip (a' := ?_) rfl rfl rfl ?_ ?_; rotate_left 1; focus (simp only [Act.put, pqA, pqS, pqZ]; try rfl)))
                    refine Chain.end_ (fun wz hwz _ => ?_)
                    go_wp2_with fail
                    go_ret
                    exact ⟨by rw [HZ.out]; rfl, below_trans hbl2 hwz⟩
              · have hd4 : decide (40 < (p.2.length : Int)) = true := decide_eq_true (by omega)
                have HZ := Lib.hid (HB.out k hgo (fun h => hl4 ((okP_iff p).1 (HG.out.1 h).1).2.2))
                clear hgn hn hpk he hl4
                go_wp2_with fail
                refine wp_region_known [(1, .string (bs p.1)), (2, .bool true), (6, .string (bs p.2)), (11, .string (bs p.2))] (by kernel_rfl) 51 (by kernel_rfl) rfl ?_
                repeat (first
                  | (refine Chain.step (v := ?_) (a' := ?_) rfl rfl rfl ?_ ?_ ?_; rotate_left 2; (focus (intro w; go_simp; try with_reducible rfl)); focus (simp only [Act.put, pqA, pqS, pqZ]; try rfl))
                  | (refine Chain.call (a' := ?_) _ rfl rfl rfl (fun wx hw => ?_) ?_ ?_
                     rotate_left 1
                     focus
                       first
                       | (have y0 := (hck.below hw).cell (i := 0) rfl; have y1 := (hck.below hw).cell (i := 1) rfl; go_simp; first | exact ⟨rfl, Below.refl _ _⟩ | exact Below.refl _ _)
                       | (go_simp; ((with_reducible refine (HGN.out _ hpl).mono ?_); rintro e w2 ⟨rfl, h2⟩; exact ⟨rfl, h2⟩))
                     focus (simp only [Act.put, pqA, pqS, pqZ]; try rfl))
                  | (refine Chain.skip (a' := ?_) rfl rfl rfl ?_ ?_; rotate_left 1; focus (simp only [Act.put, pqA, pqS, pqZ]; try rfl)))
                refine Chain.end_ (fun wz hwz _ => ?_)
                go_wp2_with fail
                go_ret
                exact ⟨by rw [HZ.out]; rfl, below_trans hbl2 hwz⟩
        · obtain rfl : k = l.length := by omega
          have HZ := Lib.hid (HY.out ((ok_iff l).2 ⟨h0, by have := of_decide_eq_false h8; omega, hgd.out⟩))
          go_wp2_with fail
          go_ret
          exact ⟨by rw [HZ.out]; rfl, hbl⟩

end Go.Proofs.YtgabmfibfikdbaaGreatDoor

namespace Go.Proofs
open Go.Shelf
def Tryz.lays125_ren : Go.Shelf.Ren := ⟨fun | 125 => 152 | 128 => 167 | 129 => 168 | n => n, fun | 46 => 158 | 3 => 3 | 51 => 84 | 53 => 39 | 4 => 4 | 5 => 5 | 9 => 9 | n => n, fun | n => n⟩
theorem Tryz.lays125 : Go.Proofs.Lays.n125 Tryz.prog Tryz.lays125_ren := {
 mixed := by kernel_rfl
 f125 := Tryz.func152.trans (congrArg some (by kernel_rfl))
 f128 := Tryz.func167.trans (congrArg some (by kernel_rfl))
 f129 := Tryz.func168.trans (congrArg some (by kernel_rfl))
 t3 := Tryz.underlying3
 a3 := Tryz.isAgg3
 z3 := Tryz.sizeOf3
 v3 := Tryz.zeroValue3
 t4 := Tryz.underlying4
 a4 := Tryz.isAgg4
 z4 := Tryz.sizeOf4
 v4 := Tryz.zeroValue4
 t5 := Tryz.underlying5
 a5 := Tryz.isAgg5
 z5 := Tryz.sizeOf5
 v5 := Tryz.zeroValue5
 t9 := Tryz.underlying9
 a9 := Tryz.isAgg9
 z9 := Tryz.sizeOf9
 v9 := Tryz.zeroValue9
 t46 := Tryz.underlying158
 a46 := Tryz.isAgg158
 z46 := Tryz.sizeOf158
 v46 := Tryz.zeroValue158
 t51 := Tryz.underlying84
 a51 := Tryz.isAgg84
 z51 := Tryz.sizeOf84
 v51 := Tryz.zeroValue84
 t53 := Tryz.underlying39
 a53 := Tryz.isAgg39
 z53 := Tryz.sizeOf39
 v53 := Tryz.zeroValue39 }
theorem Tryz.bits_Len (x : Int) (w : World) (h0 : 0 <= x) (h1 : x <= 18446744073709551615) :
  Calls Tryz.prog 152 #[.int .u64 x] w fun e w' => e = .returned (.int .i64 (Lib.bitLen x.toNat)) /\ w' = w := Any.bits_Len Tryz.lays125 x w h0 h1
def Tryz.lays213_ren : Go.Shelf.Ren := ⟨fun | 213 => 101 | 265 => 120 | n => n, fun | 9 => 9 | 3 => 3 | n => n, fun | n => n⟩
def Tryz.lays106_ren : Go.Shelf.Ren := ⟨fun | 106 => 79 | 213 => 101 | 265 => 120 | n => n, fun | 9 => 9 | 3 => 3 | n => n, fun | n => n⟩
theorem Tryz.lays106 : Go.Proofs.Lays.n106 Tryz.prog Tryz.lays106_ren := {
 mixed := by kernel_rfl
 f106 := Tryz.func79.trans (congrArg some (by kernel_rfl))
 f213 := Tryz.func101.trans (congrArg some (by kernel_rfl))
 f265 := Tryz.func120.trans (congrArg some (by kernel_rfl))
 t3 := Tryz.underlying3
 a3 := Tryz.isAgg3
 z3 := Tryz.sizeOf3
 v3 := Tryz.zeroValue3
 t9 := Tryz.underlying9
 a9 := Tryz.isAgg9
 z9 := Tryz.sizeOf9
 v9 := Tryz.zeroValue9 }
open Go.RowKit in
theorem Tryz.strings_Compare (a b : ByteArray) (w : World) :
  Calls Tryz.prog 79 #[.string a, .string b] w fun e w' => e = .returned (.int .i64 (Lib.compareBytes a.data.toList b.data.toList)) /\ w' = w := Any.strings_Compare Tryz.lays106 a b w
def Tryz.lays219_ren : Go.Shelf.Ren := ⟨fun | 219 => 150 | 217 => 154 | 225 => 156 | 224 => 157 | 267 => 158 | 266 => 169 | 314 => 170 | n => n, fun | 9 => 9 | 3 => 3 | 4 => 4 | 5 => 5 | 46 => 158 | 146 => 261 | 51 => 84 | n => n, fun | 1 => 0 | n => n⟩
theorem Tryz.lays219 : Go.Proofs.Lays.n219 Tryz.prog Tryz.lays219_ren := {
 mixed := by kernel_rfl
 f217 := Tryz.func154.trans (congrArg some (by kernel_rfl))
 f219 := Tryz.func150.trans (congrArg some (by kernel_rfl))
 f224 := Tryz.func157.trans (congrArg some (by kernel_rfl))
 f225 := Tryz.func156.trans (congrArg some (by kernel_rfl))
 f266 := Tryz.func169.trans (congrArg some (by kernel_rfl))
 f267 := Tryz.func158.trans (congrArg some (by kernel_rfl))
 f314 := Tryz.func170.trans (congrArg some (by kernel_rfl))
 t3 := Tryz.underlying3
 a3 := Tryz.isAgg3
 z3 := Tryz.sizeOf3
 v3 := Tryz.zeroValue3
 t4 := Tryz.underlying4
 a4 := Tryz.isAgg4
 z4 := Tryz.sizeOf4
 v4 := Tryz.zeroValue4
 t5 := Tryz.underlying5
 a5 := Tryz.isAgg5
 z5 := Tryz.sizeOf5
 v5 := Tryz.zeroValue5
 t9 := Tryz.underlying9
 a9 := Tryz.isAgg9
 z9 := Tryz.sizeOf9
 v9 := Tryz.zeroValue9
 t46 := Tryz.underlying158
 a46 := Tryz.isAgg158
 z46 := Tryz.sizeOf158
 v46 := Tryz.zeroValue158
 t51 := Tryz.underlying84
 a51 := Tryz.isAgg84
 z51 := Tryz.sizeOf84
 v51 := Tryz.zeroValue84
 t146 := Tryz.underlying261
 a146 := Tryz.isAgg261
 z146 := Tryz.sizeOf261
 v146 := Tryz.zeroValue261
 g1 := by kernel_rfl }
open Go.RowKit Go.Lib in
theorem Tryz.stringslite_Index_one (s : ByteArray) (c : UInt8) (w : World) :
  Calls Tryz.prog 150 #[.string s, .string ⟨#[c]⟩] w fun e w' => e = .returned (.int .i64 (Lib.indexByte s.data.toList c)) /\ w' = w := Any.stringslite_Index_one Tryz.lays219 s c w
def Tryz.lays143_ren : Go.Shelf.Ren := ⟨fun | 143 => 149 | 219 => 150 | 217 => 154 | 225 => 156 | 224 => 157 | 267 => 158 | 266 => 169 | 314 => 170 | n => n, fun | 9 => 9 | 3 => 3 | 4 => 4 | 5 => 5 | 46 => 158 | 146 => 261 | 51 => 84 | n => n, fun | 1 => 0 | n => n⟩
theorem Tryz.lays143 : Go.Proofs.Lays.n143 Tryz.prog Tryz.lays143_ren := {
 mixed := by kernel_rfl
 f143 := Tryz.func149.trans (congrArg some (by kernel_rfl))
 f217 := Tryz.func154.trans (congrArg some (by kernel_rfl))
 f219 := Tryz.func150.trans (congrArg some (by kernel_rfl))
 f224 := Tryz.func157.trans (congrArg some (by kernel_rfl))
 f225 := Tryz.func156.trans (congrArg some (by kernel_rfl))
 f266 := Tryz.func169.trans (congrArg some (by kernel_rfl))
 f267 := Tryz.func158.trans (congrArg some (by kernel_rfl))
 f314 := Tryz.func170.trans (congrArg some (by kernel_rfl))
 t3 := Tryz.underlying3
 a3 := Tryz.isAgg3
 z3 := Tryz.sizeOf3
 v3 := Tryz.zeroValue3
 t4 := Tryz.underlying4
 a4 := Tryz.isAgg4
 z4 := Tryz.sizeOf4
 v4 := Tryz.zeroValue4
 t5 := Tryz.underlying5
 a5 := Tryz.isAgg5
 z5 := Tryz.sizeOf5
 v5 := Tryz.zeroValue5
 t9 := Tryz.underlying9
 a9 := Tryz.isAgg9
 z9 := Tryz.sizeOf9
 v9 := Tryz.zeroValue9
 t46 := Tryz.underlying158
 a46 := Tryz.isAgg158
 z46 := Tryz.sizeOf158
 v46 := Tryz.zeroValue158
 t51 := Tryz.underlying84
 a51 := Tryz.isAgg84
 z51 := Tryz.sizeOf84
 v51 := Tryz.zeroValue84
 t146 := Tryz.underlying261
 a146 := Tryz.isAgg261
 z146 := Tryz.sizeOf261
 v146 := Tryz.zeroValue261
 g1 := by kernel_rfl }
open Go.RowKit Go.Lib in
theorem Tryz.strings_Index_one (s : ByteArray) (c : UInt8) (w : World) :
  Calls Tryz.prog 149 #[.string s, .string ⟨#[c]⟩] w fun e w' => e = .returned (.int .i64 (Lib.indexByte s.data.toList c)) /\ w' = w := Any.strings_Index_one Tryz.lays143 s c w
def Tryz.pdqP_ren : Go.Shelf.Ren := ⟨fun | 14 => 151 | 20 => 159 | 21 => 160 | 22 => 161 | 23 => 162 | 24 => 163 | 25 => 164 | 26 => 165 | 27 => 166 | 46 => 171 | 47 => 172 | 48 => 173 | 49 => 174 | 50 => 175 | 15 => 152 | 57 => 176 | 28 => 167 | 29 => 168 | n => n, fun | 24 => 128 | 22 => 22 | 3 => 3 | 25 => 166 | 4 => 4 | 0 => 0 | 46 => 251 | 45 => 250 | 50 => 227 | 66 => 263 | 39 => 158 | 55 => 39 | 70 => 267 | 76 => 269 | 77 => 270 | 53 => 84 | 5 => 5 | 9 => 9 | n => n, fun | n => n⟩
theorem Tryz.pdqP : Go.Proofs.SlLaysF0.n14 Tryz.prog Tryz.pdqP_ren := {
 mixed := by kernel_rfl
 f14 := ⟨Tryz.f151.name, by decide, Tryz.func151.trans (congrArg some (by kernel_rfl))⟩
 f15 := Tryz.func152.trans (congrArg some (by kernel_rfl))
 f20 := ⟨Tryz.f159.name, by decide, Tryz.func159.trans (congrArg some (by kernel_rfl))⟩
 f21 := ⟨Tryz.f160.name, by decide, Tryz.func160.trans (congrArg some (by kernel_rfl))⟩
 f22 := ⟨Tryz.f161.name, by decide, Tryz.func161.trans (congrArg some (by kernel_rfl))⟩
 f23 := ⟨Tryz.f162.name, by decide, Tryz.func162.trans (congrArg some (by kernel_rfl))⟩
 f24 := ⟨Tryz.f163.name, by decide, Tryz.func163.trans (congrArg some (by kernel_rfl))⟩
 f25 := ⟨Tryz.f164.name, by decide, Tryz.func164.trans (congrArg some (by kernel_rfl))⟩
 f26 := ⟨Tryz.f165.name, by decide, Tryz.func165.trans (congrArg some (by kernel_rfl))⟩
 f27 := ⟨Tryz.f166.name, by decide, Tryz.func166.trans (congrArg some (by kernel_rfl))⟩
 f28 := Tryz.func167.trans (congrArg some (by kernel_rfl))
 f29 := Tryz.func168.trans (congrArg some (by kernel_rfl))
 f46 := ⟨Tryz.f171.name, by decide, Tryz.func171.trans (congrArg some (by kernel_rfl))⟩
 f47 := Tryz.func172.trans (congrArg some (by kernel_rfl))
 f48 := Tryz.func173.trans (congrArg some (by kernel_rfl))
 f49 := ⟨Tryz.f174.name, by decide, Tryz.func174.trans (congrArg some (by kernel_rfl))⟩
 f50 := ⟨Tryz.f175.name, by decide, Tryz.func175.trans (congrArg some (by kernel_rfl))⟩
 f57 := ⟨Tryz.f176.name, by decide, Tryz.func176.trans (congrArg some (by kernel_rfl))⟩
 t0 := Tryz.underlying0
 a0 := Tryz.isAgg0
 z0 := Tryz.sizeOf0
 v0 := Tryz.zeroValue0
 t3 := Tryz.underlying3
 a3 := Tryz.isAgg3
 z3 := Tryz.sizeOf3
 v3 := Tryz.zeroValue3
 t4 := Tryz.underlying4
 a4 := Tryz.isAgg4
 z4 := Tryz.sizeOf4
 v4 := Tryz.zeroValue4
 t5 := Tryz.underlying5
 a5 := Tryz.isAgg5
 z5 := Tryz.sizeOf5
 v5 := Tryz.zeroValue5
 t9 := Tryz.underlying9
 a9 := Tryz.isAgg9
 z9 := Tryz.sizeOf9
 v9 := Tryz.zeroValue9
 t22 := Tryz.underlying22
 a22 := Tryz.isAgg22
 z22 := Tryz.sizeOf22
 v22 := Tryz.zeroValue22
 t25 := Tryz.underlying166
 a25 := Tryz.isAgg166
 z25 := Tryz.sizeOf166
 v25 := Tryz.zeroValue166
 t39 := Tryz.underlying158
 a39 := Tryz.isAgg158
 z39 := Tryz.sizeOf158
 v39 := Tryz.zeroValue158
 t45 := Tryz.underlying250
 a45 := Tryz.isAgg250
 z45 := Tryz.sizeOf250
 v45 := Tryz.zeroValue250
 t46 := Tryz.underlying251
 a46 := Tryz.isAgg251
 z46 := Tryz.sizeOf251
 v46 := Tryz.zeroValue251
 t50 := Tryz.underlying227
 a50 := Tryz.isAgg227
 z50 := Tryz.sizeOf227
 v50 := Tryz.zeroValue227
 t53 := Tryz.underlying84
 a53 := Tryz.isAgg84
 z53 := Tryz.sizeOf84
 v53 := Tryz.zeroValue84
 t55 := Tryz.underlying39
 a55 := Tryz.isAgg39
 z55 := Tryz.sizeOf39
 v55 := Tryz.zeroValue39
 t66 := Tryz.underlying263
 a66 := Tryz.isAgg263
 z66 := Tryz.sizeOf263
 v66 := Tryz.zeroValue263
 t70 := Tryz.underlying267
 a70 := Tryz.isAgg267
 z70 := Tryz.sizeOf267
 v70 := Tryz.zeroValue267
 t76 := Tryz.underlying269
 a76 := Tryz.isAgg269
 z76 := Tryz.sizeOf269
 v76 := Tryz.zeroValue269
 t77 := Tryz.underlying270
 a77 := Tryz.isAgg270
 z77 := Tryz.sizeOf270
 v77 := Tryz.zeroValue270 }
end Go.Proofs

set_option maxHeartbeats 32000000
set_option maxRecDepth 10000
namespace Go.Proofs.YtgabmfibfikdbaaGreatDoor
open Go.RowKit Go.Bar Go.Bar.Leb Go.Bar.Lab

theorem cmpB_eq : ∀ (a b : List UInt8), Lib.compareBytes a b = cmpB a b
 | [], [] => rfl
 | [], _ :: _ => by simp [Lib.compareBytes, cmpB]
 | _ :: _, [] => by simp [Lib.compareBytes, cmpB]
 | a :: x, b :: y => by
  have ih := cmpB_eq x y
  unfold cmpB at ih
  unfold Lib.compareBytes cmpB
  simp only [List.cons_lt_cons_iff]
  rw [ih]
  by_cases h1 : a < b
  ·simp [h1]
  ·by_cases h2 : b < a
   ·have h3 : a ≠ b := fun h => by rw [h] at h2; exact absurd h2 (UInt8.lt_irrefl b)
    simp [h1, h2, h3]
   ·have h3 : a = b := UInt8.toNat_inj.1 (by rw [UInt8.lt_iff_toNat_lt] at h1 h2; omega)
    subst h3
    simp
theorem compare_any (a b : List UInt8) (w : World) : Calls Tryz.prog 79 #[.string (bs a), .string (bs b)] w fun e w' => e = .returned (.int .i64 (cmpB a b)) /\ w = w' :=
 (Tryz.strings_Compare (bs a) (bs b) w).mono fun _ _ ⟨h1, h2⟩ => ⟨by rw [h1, bs_data, bs_data, cmpB_eq], h2.symm⟩

def encP (p : Pr) : List Value := [.string (bs p.1), .string (bs p.2)]
theorem encP_two (p : Pr) : (encP p).length = 2 := rfl
theorem encP_one (p : Pr) : ∀ v ∈ encP p, v.oneCell' = true := fun v hv => by
 simp [encP] at hv
 rcases hv with rfl | rfl <;> rfl

theorem byName_any (p q : Pr) (w : World) : Calls Tryz.prog 140 #[.agg #[.string (bs p.1), .string (bs p.2)], .agg #[.string (bs q.1), .string (bs q.2)]] w
  fun e w' => e = .returned (.int .i64 (cmpB p.1 q.1)) /\ ∃ k os, w' = Sort.grow (w.drewN k) os := by
 have hcon := compare_any p.1 q.1
 have HC := Lib.hid hcon
 clear hcon
 go_enter Tryz.func140, Tryz.ntmps140
 go_wp2_with fail
 refine (HC.out _).mono ?_
 rintro e w' ⟨rfl, rfl⟩
 go_wp2_with fail
 go_ret
 exact ⟨rfl, 0, _, by rw [Sort.alloc_eq_grow, Sort.alloc_eq_grow, Sort.grow_grow]; rfl⟩

def byN (p q : Pr) : Int := cmpB p.1 q.1
theorem byN_lt (p q : Pr) : Go.Proofs.ltOf byN p q = decide (p.1 < q.1) := by
 unfold Go.Proofs.ltOf byN
 rw [decide_eq_decide]
 exact cmpB_lt
theorem byN_swo : Sort.SWO (Go.Proofs.ltOf byN) where
 irrefl x := by rw [byN_lt]; exact decide_eq_false (b_irrefl _)
 trans x y z h1 h2 := by
  rw [byN_lt, decide_eq_true_eq] at *
  exact b_trans h1 h2
 ntrans x y z h1 h2 := by
  rw [byN_lt, decide_eq_false_iff_not] at *
  intro h3
  by_cases h4 : y.1 < x.1
  ·exact h2 (b_trans h4 h3)
  ·exact h2 (by rw [<- b_tri h1 h4]; exact h3)

theorem pair_ty : ElemTy Tryz.prog 22 128 (.agg #[.string ByteArray.empty, .string ByteArray.empty]) 2 32 :=
 ⟨Tryz.underlying22, info_parts (show (Tryz.prog.info? 128).map (fun i => (i.zero, i.size, i.bytes)) = some (some (.agg #[.string ByteArray.empty, .string ByteArray.empty]), 2, 32) by kernel_rfl), rfl⟩

def RetP (w : World) (l : List Pr) (e : Ending) (w' : World) : Prop := ∃ v, e = .returned v /\ NBuf w w' 128 2 v l.length (pcs l)

theorem clone_any (v : Value) (l : List Pr) (w : World) (h : PsAt w v l) (hl : l.length <= 1000000) :
  Calls Tryz.prog 138 #[v] w (RetP w l) := by
 obtain ⟨A, c, rfl, hlc, hcm⟩ := h.shape
 have hnil := fun w => run_eql_slice_nil (P := Tryz.prog) w 22 128 A l.length c Tryz.underlying22
 rcases A with _ | A
 ·have h0 : l.length = 0 := by
   rcases Nat.eq_zero_or_pos l.length with h0 | h0
   ·exact h0
   ·obtain ⟨p, hp⟩ : ∃ p, l[0]? = some p := ⟨_, List.getElem?_eq_getElem h0⟩
    obtain ⟨b, o, hA, _⟩ := h.at_ hp
    cases hA
  obtain rfl : l = [] := List.eq_nil_of_length_eq_zero h0
  clear h0 hnil
  have hnil := fun w => run_eql_slice_nil (P := Tryz.prog) w 22 128 none 0 c Tryz.underlying22
  go_enter Tryz.func138, Tryz.ntmps138
  go_wp2_with fail
  go_ret
  exact ⟨_, rfl, NBuf.nil (Below.refl _ _) _ _⟩
 ·have hs := fun o => SlAt.src (P := Tryz.prog) (h.below (below_alloc1 w o)) (by omega) (t := 22) Tryz.underlying22 (pcs_one l)
  have HS := Lib.hid hs
  have hnb := NBuf.lit0 (Below.refl w.heap.size w) 128 2
  clear hs
  go_enter Tryz.func138, Tryz.ntmps138
  go_wp2_with (at_builtin; refine wpList_append_el rfl (.tmp 5) (.tmp 6) 22 22 rfl pair_ty rfl hnb.buf rfl (HS.out _) (by simp only [maxLen]; omega) (by omega) ?_; intro v' w' hb ha hg; have hn2 := hnb.step hb ha hg; clear hb ha hg)
  go_ret
  rw [Nat.zero_add, List.nil_append] at hn2
  exact ⟨_, rfl, hn2⟩

set_option maxRecDepth 100000 in
theorem sortNone_any (A : Option Addr) (c : Nat) (w : World) :
  Calls Tryz.prog 139 #[.slice A 0 c, .func (.func 140) #[] #[]] w fun e w' => e = .returned (.tuple #[]) /\ w = w' := by
 have hi : ∀ w, Calls Tryz.prog 159 #[.slice A 0 c, .int .i64 0, .int .i64 0, .func (.func 140) #[] #[]] w fun e w' => e = .returned (.tuple #[]) /\ w = w' := by
  intro w
  go_enter Tryz.func159, Tryz.ntmps159
  go_wp2_with fail
  go_loop [8] (fun i => i = .int .i64 1) (fun _ => 0)
  case atStart => rfl
  case round =>
   obtain rfl := hrel
   go_wp2_with fail
   go_end0
   exact ⟨rfl, rfl⟩
 have HI := Lib.hid hi
 clear hi
 have hq : ∀ (q : Int) (w : World), Calls Tryz.prog 151 #[.slice A 0 c, .int .i64 0, .int .i64 0, .int .i64 q, .func (.func 140) #[] #[]] w fun e w' => e = .returned (.tuple #[]) /\ w = w' := by
  intro q w
  go_enter Tryz.func151, Tryz.ntmps151
  go_wp2_with fail
  go_loop [1, 2, 3, 10, 11] (fun a b l x y => a = .int .i64 0 /\ b = .int .i64 0 /\ l = .int .i64 q /\ x = .bool true /\ y = .bool true) (fun _ _ _ _ _ => 0)
  case atStart => exact ⟨rfl, rfl, rfl, rfl, rfl⟩
  case round =>
   obtain ⟨rfl, rfl, rfl, rfl, rfl⟩ := hrel
   go_wp2_with fail
   refine (HI.out _).mono ?_
   rintro e w' ⟨rfl, rfl⟩
   go_wp2_with fail
   refine bodyPost_ret (results_none rfl _ _ _) rfl ?_
   exact ⟨rfl, rfl⟩
 have HQ := Lib.hid hq
 clear hq
 have hb := Tryz.bits_Len 0 w (by omega) (by omega)
 have hb2 : Calls Tryz.prog 152 #[.int .u64 0] w fun e w' => (∃ q : Int, e = .returned (.int .i64 q)) /\ w = w' := hb.mono fun _ _ ⟨h1, h2⟩ => ⟨⟨_, h1⟩, h2.symm⟩
 have HB := Lib.hid hb2
 clear hb hb2
 go_enter Tryz.func139, Tryz.ntmps139
 go_wp2_with fail
 refine HB.out.mono ?_
 rintro e w' ⟨⟨q, rfl⟩, rfl⟩
 go_wp2_with fail
 refine (HQ.out q _).mono ?_
 rintro e w' ⟨rfl, rfl⟩
 go_wp2_with fail
 go_end0
 exact ⟨rfl, rfl⟩

theorem sortBuf_any (b o c : Nat) (l : List Pr) (w0 w : World) (h : NBuf w0 w 128 2 (.slice (some ⟨b, o, none⟩) l.length c) l.length (pcs l)) (h0 : 0 < l.length) (hl : l.length <= 1000000) :
  Calls Tryz.prog 139 #[.slice (some ⟨b, o, none⟩) l.length c, .func (.func 140) #[] #[]] w
   fun e w' => e = .returned (.tuple #[]) /\ ∃ m : List Pr, m.Perm l /\ Asc m /\ NBuf w0 w' 128 2 (.slice (some ⟨b, o, none⟩) l.length c) l.length (pcs m) := by
 have hsz : l.toArray.size = l.length := rfl
 have hblk : b < w.heap.size := h.buf.lt h0 b rfl
 have hB : w0.heap.size <= b := h.new b rfl
 have eg : ∀ args w, (callFunc 140 args).run Tryz.prog w = .ok (.enter 140 args) w := enters_of Tryz.func140 (by kernel_rfl) rfl
 have hH : Sort.HoldsK encP 2 w b o l.toArray := Buf.holdsK encP_two (d := l.toArray) h.buf
 have hcmp : Go.Proofs.CmpLays Tryz.prog 140 #[] encP 2 byN b o l.toArray.size w := fun _ _ _ _ x y => byName_any x y _
 have hlim : Lib.bitLen l.toArray.size < 4611686018427387904 := Nat.lt_of_le_of_lt (Lib.bitLen_le l.toArray.size 62 (by omega) (by omega)) (by omega)
 have hp := Go.Proofs.AnyQ.pdqsortCmpFunc_all (P := Tryz.prog) (ρ := Tryz.pdqP_ren) Tryz.pdqP 2 Tryz.isAgg128 Tryz.sizeOf128 encP byN 140 #[] byN_swo b o c l.toArray w eg hcmp ⟨encP_two, encP_one, hH, hblk⟩ (l.toArray.size + 1) 0 l.toArray.size (Lib.bitLen l.toArray.size) l.toArray w (by omega) rfl (Go.Proofs.SWK.start hH) (Nat.zero_le _) (Nat.le_refl _) (by omega) hlim (Or.inl rfl)
 have hs := Sort.pdq_sorts (Go.Proofs.ltOf byN) byN_swo l.toArray 0 l.toArray.size (Lib.bitLen l.toArray.size) true true (Nat.zero_le _) (Nat.le_refl _) (Or.inl rfl)
 have hq : Calls Tryz.prog 151 #[.slice (some ⟨b, o, none⟩) l.length c, .int .i64 0, .int .i64 l.length, .int .i64 (Lib.bitLen l.length : Nat), .func (.func 140) #[] #[]] w
   fun e w' => e = .returned (.tuple #[]) /\ ∃ m : List Pr, m.Perm l /\ Asc m /\ NBuf w0 w' 128 2 (.slice (some ⟨b, o, none⟩) l.length c) l.length (pcs m) := by
  refine Calls.mono hp ?_
  rintro e w' ⟨h1, n, os, rfl⟩
  obtain ⟨p1, p2⟩ := permIn_list hs.1
  have p4 := sortedIn_list (d := Sort.pdq (Go.Proofs.ltOf byN) l.toArray 0 l.toArray.size (Lib.bitLen l.toArray.size) true true) (by rw [p1]; exact hs.2)
  generalize Sort.pdq (Go.Proofs.ltOf byN) l.toArray 0 l.toArray.size (Lib.bitLen l.toArray.size) true true = d at *
  exact ⟨h1, d.toList, p2, p4.imp (fun hh => by rw [byN_lt, decide_eq_false_iff_not] at hh; exact hh), Buf.sortWorldK encP_two h.buf n d p1 h0 os, h.below.trans (sortWorldK_below encP 2 n d os hB hblk), h.new⟩
 have HQ := Lib.hid hq
 have hb := Tryz.bits_Len (l.length : Int) w (by omega) (by omega)
 have hb2 : Calls Tryz.prog 152 #[.int .u64 l.length] w fun e w' => e = .returned (.int .i64 (Lib.bitLen l.length : Nat)) /\ w = w' := hb.mono fun _ _ ⟨h1, h2⟩ => ⟨by rw [h1, Int.toNat_natCast], h2.symm⟩
 have HB := Lib.hid hb2
 have wr : IntKind.u64.wrap (l.length : Int) = l.length := by rw [IntKind.wrap_u64]; omega
 have WR := Lib.hid wr
 clear hb hb2 hq hp hs hH hcmp hlim hsz eg h wr
 obtain ⟨Z, hZ⟩ : ∃ Z : Nat, Z = Lib.bitLen l.length := ⟨_, rfl⟩
 rw [<- hZ] at HB HQ
 clear hZ
 go_enter Tryz.func139, Tryz.ntmps139
 go_wp2_with fail
 refine HB.out.mono ?_
 rintro e w' ⟨rfl, rfl⟩
 go_wp2_with fail
 refine HQ.out.mono ?_
 rintro e w' ⟨rfl, hm⟩
 have HM := Lib.hid hm
 clear hm
 go_wp2_with fail
 go_end0
 exact ⟨rfl, HM.out⟩

def RetMk (w : World) (l : List Pr) (e : Ending) (w' : World) : Prop := ∃ v m, e = .returned (.tuple #[v, .int .i64 (errL m)]) /\ m.Perm l /\ Asc m /\ NBuf w w' 128 2 v m.length (pcs m)

theorem make_any (v : Value) (l : List Pr) (w : World) (h : PsAt w v l) (hl : l.length <= 1000000) (hp : ∀ p ∈ l, p.1.length <= 1000000000000) :
  Calls Tryz.prog 115 #[v] w (RetMk w l) := by
 have hc := clone_any v l w h hl
 have HC := Lib.hid hc
 clear hc
 obtain ⟨A, c, rfl, hlc, hcm⟩ := h.shape
 go_enter Tryz.func115, Tryz.ntmps115
 go_wp2_with fail
 refine HC.out.mono ?_
 rintro e w1 ⟨v1, rfl, hn⟩
 obtain ⟨A1, c1, rfl, hc1⟩ := hn.buf.shape
 rcases Nat.eq_zero_or_pos l.length with h0 | h0
 ·obtain rfl : l = [] := List.eq_nil_of_length_eq_zero h0
  have hk := lcheck_any (.slice A1 0 c1) [] w1 hn.slice hp
  have HK := Lib.hid hk
  have HN := Lib.hid hn
  clear hk hn h0 hl hp
  go_wp2_with fail
  refine (sortNone_any A1 c1 w1).mono ?_
  rintro e w' ⟨rfl, rfl⟩
  go_wp2_with fail
  refine HK.out.mono ?_
  rintro e w2 ⟨rfl, hb⟩
  have HN2 := Lib.hid (HN.out.then_below hb)
  clear hb
  go_wp2_with fail
  go_ret2
  exact ⟨_, [], rfl, .refl _, by simp [Asc], HN2.out⟩
 ·obtain ⟨b, o, hA, _⟩ := hn.buf.some_at h0
  subst hA
  have hs := sortBuf_any b o c1 l w w1 hn h0 hl
  have HS := Lib.hid hs
  clear hs hn
  go_wp2_with fail
  refine HS.out.mono ?_
  rintro e w2 ⟨rfl, m, hm1, hm2, hn⟩
  have hml : m.length = l.length := hm1.length_eq
  have hn2 : NBuf w w2 128 2 (.slice (some ⟨b, o, none⟩) l.length c1) m.length (pcs m) := by rw [hml]; exact hn
  have hk := lcheck_any _ m w2 hn2.slice (fun p hp' => hp p (hm1.mem_iff.1 hp'))
  have HK := Lib.hid hk
  have HN := Lib.hid hn2
  have HM := Lib.hid hm1
  clear hk hn hn2 hml hm1
  go_wp2_with fail
  refine HK.out.mono ?_
  rintro e w3 ⟨rfl, hb⟩
  have HN2 := Lib.hid (HN.out.then_below hb)
  clear hb
  go_wp2_with fail
  go_ret2
  exact ⟨_, m, rfl, HM.out, hm2, HN2.out⟩

end Go.Proofs.YtgabmfibfikdbaaGreatDoor

set_option maxHeartbeats 32000000
set_option maxRecDepth 10000
namespace Go.Proofs.YtgabmfibfikdbaaGreatDoor
open Go.RowKit Go.Bar Go.Bar.Leb Go.Bar.Lab

theorem byBoth_any (p q : Pr) (w : World) : Calls Tryz.prog 78 #[.agg #[.string (bs p.1), .string (bs p.2)], .agg #[.string (bs q.1), .string (bs q.2)]] w
  (RetBelow w (.int .i64 (cmpP p q))) := by
 have hcon := compare_any p.1 q.1
 have hcon2 := compare_any p.2 q.2
 have hbl : Below w.heap.size w ((w.alloc (.cells #[.string (bs p.1), .string (bs p.2)] 128)).alloc (.cells #[.string (bs q.1), .string (bs q.2)] 128)) := below_trans (below_alloc1 _ _) (below_alloc1 _ _)
 unfold cmpP
 by_cases h0 : cmpB p.1 q.1 = 0
 ·rw [if_neg (by omega)]
  rw [h0] at hcon
  have HC := Lib.hid hcon
  have HC2 := Lib.hid hcon2
  clear hcon hcon2 h0
  go_enter Tryz.func78, Tryz.ntmps78
  go_wp2_with fail
  refine (HC.out _).mono ?_
  rintro e w' ⟨rfl, rfl⟩
  go_wp2_with fail
  refine (HC2.out _).mono ?_
  rintro e w' ⟨rfl, rfl⟩
  go_wp2_with fail
  go_ret
  exact ⟨rfl, hbl⟩
 ·rw [if_pos h0]
  have hb : (cmpB p.1 q.1 != 0) = true := by rw [bne_iff_ne]; exact h0
  obtain ⟨z, hz⟩ : ∃ z, cmpB p.1 q.1 = z := ⟨_, rfl⟩
  rw [hz] at hcon hb ⊢
  have HC := Lib.hid hcon
  clear hcon hcon2 h0 hz
  go_enter Tryz.func78, Tryz.ntmps78
  go_wp2_with fail
  refine (HC.out _).mono ?_
  rintro e w' ⟨rfl, rfl⟩
  go_wp2_with fail
  go_ret
  exact ⟨rfl, hbl⟩

theorem cmpL_step {a b : List Pr} {k : Nat} {p q : Pr} (ha : a[k]? = some p) (hb : b[k]? = some q) : cmpL (a.drop k) (b.drop k) = if cmpP p q ≠ 0 then cmpP p q else cmpL (a.drop (k + 1)) (b.drop (k + 1)) := by
 obtain ⟨h1, rfl⟩ := List.getElem?_eq_some_iff.1 ha
 obtain ⟨h2, rfl⟩ := List.getElem?_eq_some_iff.1 hb
 rw [List.drop_eq_getElem_cons h1, List.drop_eq_getElem_cons h2]
 rfl
theorem cmpL_right {a b : List Pr} {k : Nat} (ha : k < a.length) (hb : b.length <= k) : cmpL (a.drop k) (b.drop k) = 1 := by
 rw [List.drop_eq_getElem_cons ha, List.drop_of_length_le hb]
 rfl
theorem cmpL_end {a b : List Pr} : cmpL (a.drop a.length) (b.drop a.length) = if a.length < b.length then -1 else 0 := by
 rw [List.drop_length]
 split
 ·rename_i h
  rw [List.drop_eq_getElem_cons h]
  rfl
 ·rename_i h
  rw [List.drop_of_length_le (by omega)]
  rfl

theorem compareFunc_any (v v' : Value) (a b : List Pr) (w : World) (h : PsAt w v a) (h' : PsAt w v' b) :
  Calls Tryz.prog 77 #[v, v', .func (.func 78) #[] #[]] w (RetBelow w (.int .i64 (cmpL a b))) := by
 obtain ⟨A, c, rfl, hlc, hcm⟩ := h.shape
 obtain ⟨A', c', rfl, hlc', hcm'⟩ := h'.shape
 unfold maxLen at hcm hcm'
 obtain ⟨Z, hZ⟩ : ∃ Z, Z = cmpL a b := ⟨_, rfl⟩
 rw [<- hZ]
 have HZ := Lib.hid hZ
 clear hZ
 go_enter Tryz.func77, Tryz.ntmps77
 go_wp2_with fail
 go_loopw [13] (fun i wr => ∃ k : Nat, k <= a.length /\ i = .int .i64 k /\ Below w.heap.size w wr /\ Hid (Z = cmpL (a.drop k) (b.drop k))) (fun i _ => a.length - (intOf i).toNat)
 case atStart => exact ⟨0, Nat.zero_le _, rfl, Below.refl _ _, HZ⟩
 case round =>
  obtain ⟨k, hk, rfl, hbl, hz⟩ := hrel
  by_cases hgo : k < a.length
  ·obtain ⟨p, hpk⟩ : ∃ p, a[k]? = some p := ⟨_, List.getElem?_eq_getElem hgo⟩
   obtain ⟨ba, oa, rfl, hba, g1, g2⟩ := (h.below hbl).at_ hpk
   by_cases hgb : k < b.length
   ·obtain ⟨q, hqk⟩ : ∃ q, b[k]? = some q := ⟨_, List.getElem?_eq_getElem hgb⟩
    obtain ⟨bb, ob, rfl, hbb, f1, f2⟩ := (h'.below hbl).at_ hqk
    have hd : decide ((b.length : Int) <= (k : Int)) = false := decide_eq_false (by omega)
    have HS := Lib.hid (cmpL_step hpk hqk)
    have hc := byBoth_any p q
    clear hpk hqk
    have hbl2 : Below w.heap.size w ((wr.alloc (.cells #[.string (bs p.1), .string (bs p.2)] 128)).alloc (.cells #[.string (bs q.1), .string (bs q.2)] 128)) := below_trans (below_trans hbl (below_alloc1 _ _)) (below_alloc1 _ _)
    by_cases h0 : cmpP p q = 0
    ·have hz2 : Z = cmpL (a.drop (k + 1)) (b.drop (k + 1)) := by rw [hz.out, HS.out, if_neg (by omega)]
     rw [h0] at hc
     have HC := Lib.hid hc
     have HZ2 := Lib.hid hz2
     clear hc hz2 h0 hz
     go_wp2_with fail
     refine (HC.out _).mono ?_
     rintro e w2 ⟨rfl, h2⟩
     have hbl3 := below_trans hbl2 h2
     clear h2
     go_wp2_with fail
     go_roundw
     case rel => exact ⟨k + 1, by omega, by go_num, hbl3, HZ2⟩
     case measure => simp [intOf]; omega
    ·have hz2 : Z = cmpP p q := by rw [hz.out, HS.out, if_pos h0]
     have hb : (cmpP p q != 0) = true := by rw [bne_iff_ne]; exact h0
     rw [<- hz2] at hc hb
     have HC := Lib.hid hc
     clear hc hz2 h0 hz
     go_wp2_with fail
     refine (HC.out _).mono ?_
     rintro e w2 ⟨rfl, h2⟩
     have hbl3 := below_trans hbl2 h2
     clear h2
     go_wp2_with fail
     go_ret
     exact ⟨rfl, hbl3⟩
   ·have HZ2 := Lib.hid (show Z = 1 by rw [hz.out, cmpL_right hgo (by omega)])
    have hd : decide ((b.length : Int) <= (k : Int)) = true := decide_eq_true (by omega)
    clear hpk hz
    go_wp2_with fail
    go_ret
    exact ⟨by rw [HZ2.out]; rfl, below_trans hbl (below_alloc1 _ _)⟩
  ·obtain rfl : k = a.length := by omega
   have hz2 := hz.out
   rw [cmpL_end] at hz2
   by_cases hlt : a.length < b.length
   ·rw [if_pos hlt] at hz2
    have HZ2 := Lib.hid hz2
    clear hz2 hz
    go_wp2_with fail
    go_ret
    exact ⟨by rw [HZ2.out]; rfl, hbl⟩
   ·rw [if_neg hlt] at hz2
    have HZ2 := Lib.hid hz2
    have hd : decide ((a.length : Int) < (b.length : Int)) = false := decide_eq_false (by omega)
    clear hz2 hz
    go_wp2_with fail
    go_ret
    exact ⟨by rw [HZ2.out]; rfl, hbl⟩

theorem lcompare_any (v v' : Value) (a b : List Pr) (w : World) (h : PsAt w v a) (h' : PsAt w v' b) :
  Calls Tryz.prog 38 #[v, v'] w (RetBelow w (.int .i64 (cmpL a b))) := by
 have hc := compareFunc_any v v' a b w h h'
 obtain ⟨Z, hZ⟩ : ∃ Z, cmpL a b = Z := ⟨_, rfl⟩
 rw [hZ] at hc ⊢
 have HC := Lib.hid hc
 clear hc hZ h h'
 go_enter Tryz.func38, Tryz.ntmps38
 go_wp2_with fail
 refine HC.out.mono ?_
 rintro e w2 ⟨rfl, h2⟩
 go_wp2_with fail
 go_ret
 exact ⟨rfl, h2⟩

end Go.Proofs.YtgabmfibfikdbaaGreatDoor

namespace Go.Proofs.YtgabmfibfikdbaaGreatDoor
open Go.RowKit Go.Bar

def SbFr (b : Nat) (w w' : World) : Prop := ∀ k, k < w.heap.size -> k ≠ b -> (∀ cur fr, w.heap[k]? ≠ some (.cells cur 5 fr)) -> w'.heap[k]? = w.heap[k]?
theorem SbFr.blk {b : Nat} {w w' : World} (h : SbFr b w w') {M : Nat} {T : TypeId} {cur : Array Value} (hb : Blk w M T cur) (hne : M ≠ b) (hT : T ≠ 5) : Blk w' M T cur :=
 (h M hb.lt hne (fun c fr hc => by unfold Blk at hb; rw [hb] at hc; injection hc with hc; injection hc with _ hc _; exact hT hc)).trans hb

end Go.Proofs.YtgabmfibfikdbaaGreatDoor
