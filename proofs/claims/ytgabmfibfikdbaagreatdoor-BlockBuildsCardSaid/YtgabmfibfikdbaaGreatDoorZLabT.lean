/-
  Layer 6: the walks of the reference's Check, Key and Compare.
-/
import Derived.Test.YtgabmfibfikdbaaGreatDoorZLabF
import Derived.Deep.QuietTactic
import Derived.BigQuiet
import Derived.Test.YtgabmfibfikdbaaGreatDoorZLabB
import Derived.Test.YtgabmfibfikdbaaGreatDoorZIdtA
import Derived.Test.YtgabmfibfikdbaaGreatDoorZLib25
import Derived.Test.YtgabmfibfikdbaaGreatDoorZLib22
import Derived.Deep.CutRange
import Derived.Test.YtgabmfibfikdbaaGreatDoorZBokM
import Derived.Test.YtgabmfibfikdbaaGreatDoorZLib27
import Derived.Deep.RegionWith
import Derived.Test.YtgabmfibfikdbaaGreatDoorZLib8

set_option maxHeartbeats 32000000
set_option maxRecDepth 10000
namespace Go.Proofs.YtgabmfibfikdbaaGreatDoor
open Go.RowKit Go.Bar Go.Bar.Leb Go.Bar.Lab

def goodR (l : List Pr) (i : Nat) : Prop := okP (l.getD i ([], [])) = true /\ ∀ k, k < i -> (l.getD k ([], [])).1 < (l.getD i ([], [])).1
theorem ok_iffR (l : List Pr) : Ok l ↔ 0 < l.length /\ l.length <= 8 /\ ∀ i, i < l.length -> goodR l i := by
  rw [ok_iff]
  constructor
  · rintro ⟨h1, h2, h3⟩
    refine ⟨h1, h2, fun i hi => ⟨(h3 i hi).1, fun k hk => ?_⟩⟩
    have := chain_lt h3 (i - k - 1) k (by omega)
    rwa [show k + (i - k - 1) + 1 = i by omega] at this
  · rintro ⟨h1, h2, h3⟩
    exact ⟨h1, h2, fun i hi => ⟨(h3 i hi).1, fun h0 => (h3 i hi).2 (i - 1) (by omega)⟩⟩

theorem rcheck_any6 (v : Value) (l : List Pr) (w : World) (h : PsAt w v l) (hp : ∀ p ∈ l, p.1.length <= 1000000000000) :
    Calls Tryz.prog 64 #[v] w (RetBelow w (.bool (chk l))) := by
  obtain ⟨A, c, rfl, hlc, hcm⟩ := h.shape
  unfold maxLen at hcm
  obtain ⟨Z, hZ⟩ : ∃ Z, Z = chk l := ⟨_, rfl⟩
  rw [<- hZ]
  have HB := Lib.hid (fun k (hk : k < l.length) (h : ¬ goodR l k) => hZ.trans (chk_false (fun h' => h (((ok_iffR l).1 h').2.2 k hk))))
  have HN := Lib.hid (fun (h : ¬ Ok l) => hZ.trans (chk_false h))
  have HY := Lib.hid (fun (h : Ok l) => hZ.trans (chk_true h))
  clear hZ
  by_cases h0 : l.length = 0
  · have hz := HN.out (fun h => by have := h.1; omega)
    have hb : ((l.length : Int) == 0) = true := by rw [beq_iff_eq]; omega
    subst hz
    clear h0 HB HN HY
    go_enter Tryz.func64, Tryz.ntmps64
    go_wp2_with fail
    go_ret
    exact ⟨rfl, Below.refl _ _⟩
  · have hb : ((l.length : Int) == 0) = false := by rw [beq_eq_false_iff_ne]; omega
    have h0 : 0 < l.length := by omega
    by_cases h8 : 8 < l.length
    · have hz := HN.out (fun h => by have := h.2.1; omega)
      subst hz
      clear HB HN HY
      go_enter Tryz.func64, Tryz.ntmps64
      go_wp2_with fail
      go_ret
      exact ⟨rfl, Below.refl _ _⟩
    · have h8 : decide (8 < (l.length : Int)) = false := decide_eq_false (by omega)
      go_enter Tryz.func64, Tryz.ntmps64
      go_wp2_with fail
      go_loopw [16] (fun i wr => ∃ k : Nat, k <= l.length /\ i = .int .i64 k /\ Below w.heap.size w wr /\ Hid (∀ j, j < k -> goodR l j)) (fun i _ => l.length - (intOf i).toNat)
      case atStart => exact ⟨0, Nat.zero_le _, rfl, Below.refl _ _, Lib.hid (fun j hj => absurd hj (Nat.not_lt_zero j))⟩
      case round =>
        obtain ⟨m, hm, rfl, hbl, hgd⟩ := hrel
        by_cases hgo : m < l.length
        · obtain ⟨p, hpk⟩ : ∃ p, l[m]? = some p := ⟨_, List.getElem?_eq_getElem hgo⟩
          obtain ⟨b, o, rfl, hbb, g1, g2⟩ := (h.below hbl).at_ hpk
          have hpl := hp p (List.mem_of_getElem? hpk)
          have hpd : l.getD m ([], []) = p := by rw [List.getD_eq_getElem?_getD, hpk]; rfl
          have HPD := Lib.hid hpd
          have hck := Blk.new wr #[.string (bs p.1), .string (bs p.2)] 146
          have hgn := fun w => rname_any p.1 w hpl
          have hbl2 := below_trans hbl (below_alloc1 wr (.cells #[.string (bs p.1), .string (bs p.2)] 146))
          clear hpk hpd
          rcases hn : nameB p.1 with _ | _
          · have HZ := Lib.hid (HB.out m hgo (fun h => by have := (okP_iff p).1 (by have := h.1; rwa [HPD.out] at this); rw [hn] at this; exact absurd this.1 (by simp)))
            rw [hn] at hgn
            have HGN := Lib.hid hgn
            clear hgn hn
            go_wp2_with fail
            refine (HGN.out _).mono ?_
            rintro e w2 ⟨rfl, rfl⟩
            go_wp2_with fail
            go_ret
            exact ⟨by rw [HZ.out]; rfl, hbl2⟩
          · rw [hn] at hgn
            have HGN := Lib.hid hgn
            by_cases he : p.2 = []
            · have HZ := Lib.hid (HB.out m hgo (fun h => ((okP_iff p).1 (by have := h.1; rwa [HPD.out] at this)).2.1 he))
              have hb1 : (p.2 == []) = true := by rw [beq_iff_eq]; exact he
              have hb2 : p.2.isEmpty = true := by rw [he]; rfl
              clear hgn hn he
              go_wp2_with fail
              refine (HGN.out _).mono ?_
              rintro e w2 ⟨rfl, rfl⟩
              go_wp2_with fail
              go_ret
              exact ⟨by rw [HZ.out]; rfl, hbl2⟩
            · have hb1 : (p.2 == []) = false := by rw [beq_eq_false_iff_ne]; exact he
              have hb2 : p.2.isEmpty = false := by rw [List.isEmpty_eq_false_iff]; exact he
              by_cases hl4 : p.2.length <= 40
              · have hd4 : decide (40 < (p.2.length : Int)) = false := decide_eq_false (by omega)
                have HOK := Lib.hid ((okP_iff p).2 ⟨hn, he, hl4⟩)
                obtain ⟨wo, hwo⟩ : ∃ wo, wo = wr.alloc (.cells #[.string (bs p.1), .string (bs p.2)] 146) := ⟨_, rfl⟩
                obtain ⟨MX, hMX⟩ : ∃ MX, MX = wr.heap.size := ⟨_, rfl⟩
                clear hgn hn he hl4
                go_wp2_with fail
                refine (HGN.out _).mono ?_
                rintro e w2 ⟨rfl, rfl⟩
                go_wp2_with fail
                have HBL2 := Lib.hid (show Below w.heap.size w wo by rw [hwo]; exact hbl2)
                have HCK := Lib.hid (show Blk wo MX 146 #[.string (bs p.1), .string (bs p.2)] by rw [hwo, hMX]; exact hck)
                rw [<- hwo, <- hMX]
                clear hwo g1 g2 hbl hbl2 hck
                clear hMX
                go_loopw [5] (fun i wr => ∃ k : Nat, k <= m /\ i = .int .i64 k /\ Hid (∃ q, wr = wo.drewN q) /\ Hid (∀ j, j < k -> (l.getD j ([], [])).1 < p.1)) (fun i _ => m - (intOf i).toNat)
                case atStart => exact ⟨0, Nat.zero_le _, rfl, Lib.hid ⟨0, rfl⟩, Lib.hid (fun j hj => absurd hj (Nat.not_lt_zero j))⟩
                case round =>
                  obtain ⟨k, hk, rfl, hq, hlt⟩ := hrel
                  obtain ⟨q2, rfl⟩ := hq.out
                  by_cases hgk : k < m
                  · obtain ⟨x, hxk⟩ : ∃ x, l[k]? = some x := ⟨_, List.getElem?_eq_getElem (by omega)⟩
                    obtain ⟨b', o', hA, _, y0, _⟩ := (h.below HBL2.out).at_ hxk
                    injection hA with hA
                    injection hA with e1 e2 _
                    subst e1; subst e2
                    have x0 := HCK.out.cell (i := 0) rfl
                    have hxd : (l.getD k ([], [])).1 = x.1 := by rw [List.getD_eq_getElem?_getD, hxk]; rfl
                    have hkl : (k : Int) < (l.length : Int) := by omega
                    by_cases hlx : x.1 < p.1
                    · have hls : Op.bytesLess x.1 p.1 = true := by rw [less_eq]; exact decide_eq_true hlx
                      have HLT := Lib.hid (show ∀ j, j < k + 1 -> (l.getD j ([], [])).1 < p.1 from fun j hj => by
                        by_cases hjk : j < k
                        · exact hlt.out j hjk
                        · obtain rfl : j = k := by omega
                          rw [hxd]; exact hlx)
                      clear hxk hxd hlx hlt hq
                      go_wp2_with fail
                      go_quiet (fail)
                      go_wp2_with fail
                      go_roundw
                      case rel => exact ⟨k + 1, by omega, by go_num, Lib.hid ⟨_, rfl⟩, HLT⟩
                      case measure => simp [intOf]; omega
                    · have hls : Op.bytesLess x.1 p.1 = false := by rw [less_eq]; exact decide_eq_false hlx
                      have HZ := Lib.hid (HB.out m hgo (fun h => hlx (by have := h.2 k hgk; rwa [hxd, HPD.out] at this)))
                      clear hxk hxd hlx hlt hq
                      go_wp2_with fail
                      go_quiet (fail)
                      go_wp2_with fail
                      go_ret
                      exact ⟨by rw [HZ.out]; rfl, below_drewN (below_drewN HBL2.out _) _⟩
                  · obtain rfl : k = m := by omega
                    have HGD := Lib.hid (show ∀ j, j < k + 1 -> goodR l j from fun j hj => by
                      by_cases hjk : j < k
                      · exact hgd.out j hjk
                      · obtain rfl : j = k := by omega
                        exact ⟨by rw [HPD.out]; exact HOK.out, fun i hi => by rw [HPD.out]; exact hlt.out i hi⟩)
                    clear hgk hk hq hlt hgd
                    go_wp2_with fail
                    go_roundw
                    case rel => exact ⟨k + 1, by omega, by go_num, below_drewN HBL2.out _, HGD⟩
                    case measure => simp [intOf]; omega
              · have hd4 : decide (40 < (p.2.length : Int)) = true := decide_eq_true (by omega)
                have HZ := Lib.hid (HB.out m hgo (fun h => hl4 ((okP_iff p).1 (by have := h.1; rwa [HPD.out] at this)).2.2))
                clear hgn hn he hl4
                go_wp2_with fail
                refine (HGN.out _).mono ?_
                rintro e w2 ⟨rfl, rfl⟩
                go_wp2_with fail
                go_ret
                exact ⟨by rw [HZ.out]; rfl, hbl2⟩
        · obtain rfl : m = l.length := by omega
          have HZ := Lib.hid (HY.out ((ok_iffR l).2 ⟨h0, by have := of_decide_eq_false h8; omega, hgd.out⟩))
          go_wp2_with fail
          go_ret
          exact ⟨by rw [HZ.out]; rfl, hbl⟩

theorem rkey_any (v : Value) (l : List Pr) (w : World) (h : PsAt w v l) (hl : l.length <= 1000) (hp : ∀ p ∈ l, p.1.length <= 1000000 /\ p.2.length <= 1000000) :
    Calls Tryz.prog 52 #[v] w (RetBelow w (.string (bs (key l)))) := by
  obtain ⟨A, c, rfl, hlc, hcm⟩ := h.shape
  unfold maxLen at hcm
  have hu := u_len l.length (by omega)
  have HCV := Lib.hid (show IntKind.u64.wrap (l.length : Int) = (l.length : Int) by rw [IntKind.wrap_u64]; omega)
  go_enter Tryz.func52, Tryz.ntmps52
  go_wp2_with fail
  refine (refUint_any l.length _ (by omega)).mono ?_
  rintro e w1 ⟨rfl, hb1⟩
  go_wp2_with fail
  go_loopw [12, 3] (fun i s wr => ∃ (k : Nat) (ys : List UInt8), k <= l.length /\ i = .int .i64 k /\ s = .string (bs ys) /\ Below w.heap.size w wr /\ ys.length <= 10 + k * 2000020 /\ Hid (ys = u l.length ++ (l.take k).flatMap fun p => tx p.1 ++ tx p.2)) (fun i _ _ => l.length - (intOf i).toNat)
  case atStart => exact ⟨0, _, Nat.zero_le _, rfl, rfl, hb1, by omega, Lib.hid (by simp)⟩
  case round =>
    clear hb1
    obtain ⟨k, ys, hk, rfl, rfl, hB, hyl, hy⟩ := hrel
    by_cases hgo : k < l.length
    · obtain ⟨p, hpk⟩ : ∃ p, l[k]? = some p := ⟨_, List.getElem?_eq_getElem hgo⟩
      obtain ⟨b, o, rfl, hbb, g1, g2⟩ := (h.below hB).at_ hpk
      obtain ⟨hp1, hp2⟩ := hp p (List.mem_of_getElem? hpk)
      have HPK := Lib.hid hpk
      have hck := Blk.new wr #[.string (bs p.1), .string (bs p.2)] 146
      have hB2 := below_trans hB (below_alloc1 wr (.cells #[.string (bs p.1), .string (bs p.2)] 146))
      have u1 := u_len p.1.length (by omega)
      have u2 := u_len p.2.length (by omega)
      obtain ⟨y1, hy1⟩ : ∃ y, y = tx p.1 := ⟨_, rfl⟩
      obtain ⟨y2, hy2⟩ : ∃ y, y = tx p.2 := ⟨_, rfl⟩
      have l1 : y1.length <= 1000010 := by rw [hy1]; unfold tx; rw [List.length_append]; omega
      have l2 : y2.length <= 1000010 := by rw [hy2]; unfold tx; rw [List.length_append]; omega
      have T1 := Lib.hid (fun w => (show Calls Tryz.prog 92 #[.string (bs p.1)] w (RetBelow w (.string (bs y1))) by rw [hy1]; exact refText_any (bs p.1) w (by rw [bs_size]; omega)))
      have T2 := Lib.hid (fun w => (show Calls Tryz.prog 92 #[.string (bs p.2)] w (RetBelow w (.string (bs y2))) by rw [hy2]; exact refText_any (bs p.2) w (by rw [bs_size]; omega)))
      have HY := Lib.hid (show u l.length ++ (l.take (k + 1)).flatMap (fun p => tx p.1 ++ tx p.2) = ys ++ (y1 ++ y2) by rw [hy.out, hy1, hy2, List.take_add_one, hpk]; simp)
      have hyk : ys.length <= 2100000000 := by
        have : k * 2000020 <= 1000 * 2000020 := Nat.mul_le_mul_right _ (by omega)
        omega
      have n1 : ¬ 9223372036854775807 < y1.length + y2.length := by omega
      have n2 : ¬ 9223372036854775807 < ys.length + (y1.length + y2.length) := by omega
      clear hpk hy1 hy2 u1 u2 hy hyk
      go_wp2_with fail
      go_upto_region 5 with fail
      refine wp_region_known [(2, .string (bs p.1)), (3, .string (bs y1)), (5, .string (bs p.2)), (6, .string (bs y2))] (by kernel_rfl) 27 (by kernel_rfl) rfl ?_
      repeat (first
        | (refine Chain.step (v := ?_) (a' := ?_) rfl rfl rfl ?_ ?_ ?_; rotate_left 2; (focus (intro w; go_simp; try with_reducible rfl)); focus (simp only [Act.put, pqA, pqS, pqZ]; try rfl))
        | (refine Chain.call (a' := ?_) _ rfl rfl rfl (fun wx hw => ?_) ?_ ?_
           rotate_left 1
           focus
             first
             | (have z0 := (hck.below hw).cell (i := 0) rfl; have z1 := (hck.below hw).cell (i := 1) rfl; go_simp; first | exact ⟨rfl, Below.refl _ _⟩ | exact Below.refl _ _)
             | (go_simp; ((with_reducible refine (T1.out _).mono ?_); rintro e w2 ⟨rfl, h2⟩; exact ⟨rfl, h2⟩))
             | (go_simp; ((with_reducible refine (T2.out _).mono ?_); rintro e w2 ⟨rfl, h2⟩; exact ⟨rfl, h2⟩))
           focus (simp only [Act.put, pqA, pqS, pqZ]; try rfl))
        | (refine Chain.skip (a' := ?_) rfl rfl rfl ?_ ?_; rotate_left 1; focus (simp only [Act.put, pqA, pqS, pqZ]; try rfl)))
      refine Chain.end_ (fun wz hwz _ => ?_)
      have hB3 := below_trans hB2 hwz
      clear hwz n1 n2
      go_wp2_with fail
      go_roundw
      case rel => exact ⟨k + 1, ys ++ (y1 ++ y2), by omega, by go_num, rfl, hB3, by simp; omega, Lib.hid HY.out.symm⟩
      case measure => simp [intOf]; omega
    · obtain rfl : k = l.length := by omega
      have hz : ys = key l := by rw [hy.out, List.take_length]; rfl
      have HZ := Lib.hid hz
      clear hz hy
      go_wp2_with fail
      go_ret
      exact ⟨by rw [HZ.out]; rfl, hB⟩

end Go.Proofs.YtgabmfibfikdbaaGreatDoor

set_option maxHeartbeats 32000000
set_option maxRecDepth 10000
namespace Go.Proofs.YtgabmfibfikdbaaGreatDoor
open Go.RowKit Go.Bar Go.Bar.Leb Go.Bar.Lab

theorem less_t {a b : List UInt8} (h : a < b) : Op.bytesLess a b = true := by rw [less_eq]; exact decide_eq_true h
theorem less_f {a b : List UInt8} (h : ¬ a < b) : Op.bytesLess a b = false := by rw [less_eq]; exact decide_eq_false h
theorem eqb_f {a b : List UInt8} (h : a ≠ b) : (a == b) = false := by rw [beq_eq_false_iff_ne]; exact h
theorem b_ne {a b : List UInt8} (h : a < b) : a ≠ b := fun he => by rw [he] at h; exact b_irrefl _ h

theorem rcompare_any (v v' : Value) (a b : List Pr) (w : World) (h : PsAt w v a) (h' : PsAt w v' b) :
  Calls Tryz.prog 42 #[v, v'] w (RetBelow w (.int .i64 (cmpL a b))) := by
 obtain ⟨A, c, rfl, hlc, hcm⟩ := h.shape
 obtain ⟨A', c', rfl, hlc', hcm'⟩ := h'.shape
 unfold maxLen at hcm hcm'
 obtain ⟨Z, hZ⟩ : ∃ Z, Z = cmpL a b := ⟨_, rfl⟩
 rw [<- hZ]
 have HZ := Lib.hid hZ
 clear hZ
 go_enter Tryz.func42, Tryz.ntmps42
 go_wp2_with fail
 go_loopw [5] (fun i wr => ∃ k : Nat, k <= a.length /\ k <= b.length /\ i = .int .i64 k /\ Below w.heap.size w wr /\ Hid (Z = cmpL (a.drop k) (b.drop k))) (fun i _ => a.length - (intOf i).toNat)
 case atStart => exact ⟨0, Nat.zero_le _, Nat.zero_le _, rfl, Below.refl _ _, HZ⟩
 case round =>
  obtain ⟨k, hk, hkb, rfl, hbl, hz⟩ := hrel
  by_cases hgo : k < a.length
  ·by_cases hgb : k < b.length
   ·obtain ⟨p, hpk⟩ : ∃ p, a[k]? = some p := ⟨_, List.getElem?_eq_getElem hgo⟩
    obtain ⟨ba, oa, rfl, hba, g1, g2⟩ := (h.below hbl).at_ hpk
    obtain ⟨q, hqk⟩ : ∃ q, b[k]? = some q := ⟨_, List.getElem?_eq_getElem hgb⟩
    obtain ⟨bb, ob, rfl, hbb, f1, f2⟩ := (h'.below hbl).at_ hqk
    have hd1 : decide ((k : Int) < (a.length : Int)) = true := decide_eq_true (by omega)
    have hd2 : decide ((k : Int) < (b.length : Int)) = true := decide_eq_true (by omega)
    have HS := Lib.hid (cmpL_step hpk hqk)
    clear hpk hqk
    have hbl2 : Below w.heap.size w ((wr.alloc (.cells #[.string (bs p.1), .string (bs p.2)] 146)).alloc (.cells #[.string (bs q.1), .string (bs q.2)] 146)) := below_trans (below_trans hbl (below_alloc1 _ _)) (below_alloc1 _ _)
    by_cases hlt : p.1 < q.1
    ·have hls := less_t hlt
     have HZ2 := Lib.hid (show Z = -1 by rw [hz.out, HS.out]; unfold cmpP cmpB; simp [hlt])
     clear hlt hz
     go_wp2_with fail
     go_ret
     exact ⟨by rw [HZ2.out]; rfl, hbl2⟩
    ·have hls := less_f hlt
     by_cases hgt : q.1 < p.1
     ·have heq : (p.1 == q.1) = false := eqb_f (fun h => b_ne hgt h.symm)
      have HZ2 := Lib.hid (show Z = 1 by rw [hz.out, HS.out]; unfold cmpP cmpB; simp [hlt, hgt])
      clear hlt hz hgt
      go_wp2_with fail
      go_ret
      exact ⟨by rw [HZ2.out]; rfl, hbl2⟩
     ·have he := b_tri hlt hgt
      have heq : (p.1 == q.1) = true := by rw [beq_iff_eq]; exact he
      by_cases hlt2 : p.2 < q.2
      ·have hls2 := less_t hlt2
       have HZ2 := Lib.hid (show Z = -1 by rw [hz.out, HS.out]; unfold cmpP cmpB; simp [hlt, hgt, hlt2])
       clear hlt hz hgt he hlt2
       go_wp2_with fail
       go_ret
       exact ⟨by rw [HZ2.out]; rfl, hbl2⟩
      ·have hls2 := less_f hlt2
       by_cases hgt2 : q.2 < p.2
       ·have heq2 : (p.2 == q.2) = false := eqb_f (fun h => b_ne hgt2 h.symm)
        have HZ2 := Lib.hid (show Z = 1 by rw [hz.out, HS.out]; unfold cmpP cmpB; simp [hlt, hgt, hlt2, hgt2])
        clear hlt hz hgt he hlt2 hgt2
        go_wp2_with fail
        go_ret
        exact ⟨by rw [HZ2.out]; rfl, hbl2⟩
       ·have he2 := b_tri hlt2 hgt2
        have heq2 : (p.2 == q.2) = true := by rw [beq_iff_eq]; exact he2
        have HZ2 := Lib.hid (show Z = cmpL (a.drop (k + 1)) (b.drop (k + 1)) by rw [hz.out, HS.out]; unfold cmpP cmpB; simp [hlt, hgt, hlt2, hgt2])
        clear hlt hz hgt he hlt2 hgt2 he2
        go_wp2_with fail
        go_roundw
        case rel => exact ⟨k + 1, by omega, by omega, by go_num, hbl2, HZ2⟩
        case measure => simp [intOf]; omega
   ·obtain rfl : k = b.length := by omega
    have hd1 : decide ((b.length : Int) < (a.length : Int)) = true := decide_eq_true (by omega)
    have hd2 : decide ((a.length : Int) < (b.length : Int)) = false := decide_eq_false (by omega)
    have HZ2 := Lib.hid (show Z = 1 by rw [hz.out, cmpL_right hgo (by omega)])
    clear hz
    go_wp2_with fail
    go_ret
    exact ⟨by rw [HZ2.out]; rfl, hbl⟩
  ·obtain rfl : k = a.length := by omega
   have hz2 := hz.out
   rw [cmpL_end] at hz2
   by_cases hlt : a.length < b.length
   ·rw [if_pos hlt] at hz2
    have HZ2 := Lib.hid hz2
    have hd : decide ((a.length : Int) < (b.length : Int)) = true := decide_eq_true (by omega)
    clear hz2 hz
    go_wp2_with fail
    go_ret
    exact ⟨by rw [HZ2.out]; rfl, hbl⟩
   ·rw [if_neg hlt] at hz2
    have HZ2 := Lib.hid hz2
    have hd : decide ((a.length : Int) < (b.length : Int)) = false := decide_eq_false (by omega)
    have hd' : decide ((b.length : Int) < (a.length : Int)) = false := decide_eq_false (by omega)
    clear hz2 hz
    go_wp2_with fail
    go_ret
    exact ⟨by rw [HZ2.out]; rfl, hbl⟩

end Go.Proofs.YtgabmfibfikdbaaGreatDoor

set_option maxHeartbeats 32000000
set_option maxRecDepth 10000
namespace Go.Proofs.YtgabmfibfikdbaaGreatDoor
open Go.RowKit Go.Bar Go.Bar.Leb Go.Bar.Lab Go.Bar.Xor Go.Bar.Mrg

def Deep (B W0 w : World) (Tp : TypeId) (x : Rv) : Prop := (PsAt B (.slice x.la x.ls.length x.lc) x.ls \/ NBuf W0 w Tp 2 (.slice x.la x.ls.length x.lc) x.ls.length (pcs x.ls)) /\ (SmsAt B (.slice x.sa x.ss.length x.sc) x.ss \/ NBuf W0 w 41 2 (.slice x.sa x.ss.length x.sc) x.ss.length (smc x.ss))
structure DTb (B W0 W w : World) (T Tp : TypeId) (v : Value) (t : List Rv) : Prop where
 n : NBuf W w T 2 v t.length (rcs t)
 b : Below W0.heap.size W0 W
 d : ∀ x ∈ t, Deep B W0 w Tp x
section
variable {B W0 W w w' : World} {T Tp : TypeId} {v : Value} {t : List Rv} {x : Rv}
theorem nbuf_ke {Ts : TypeId -> Prop} {e : TypeId} {sz n : Nat} {u : Value} {xs : List Value} (h : NBuf W0 w e sz u n xs) (hk : Ke Ts w w') (hb : Below W0.heap.size W0 w') (h1 : ¬ Ts e) : NBuf W0 w' e sz u n xs := ⟨hk.buf h.buf h1, hb, h.new⟩
theorem Deep.ke {Ts : TypeId -> Prop} (h : Deep B W0 w Tp x) (hk : Ke Ts w w') (hb : Below W0.heap.size W0 w') (h1 : ¬ Ts Tp) (h2 : ¬ Ts 41) : Deep B W0 w' Tp x := ⟨h.1.imp id fun h => nbuf_ke h hk hb h1, h.2.imp id fun h => nbuf_ke h hk hb h2⟩
theorem Deep.below (h : Deep B W0 w Tp x) (hb : Below w.heap.size w w') : Deep B W0 w' Tp x := ⟨h.1.imp id fun h => h.then_below hb, h.2.imp id fun h => h.then_below hb⟩
theorem Deep.rat (h : Deep B W0 w Tp x) (hb : Below B.heap.size B w) : RAt w x := ⟨h.1.elim (fun h => h.below hb) fun h => h.slice, h.2.elim (fun h => h.below hb) fun h => h.slice⟩
theorem Deep.of (h : RAt B x) (W0 w : World) (Tp : TypeId) : Deep B W0 w Tp x := ⟨.inl h.1, .inl h.2⟩
theorem Deep.after {W1 : World} (h : Deep B W0 w Tp x) (hb : Below W1.heap.size W1 W0) : Deep B W1 w Tp x := ⟨h.1.imp id fun h => h.after hb, h.2.imp id fun h => h.after hb⟩
theorem DTb.below (h : DTb B W0 W w T Tp v t) (hb : Below w.heap.size w w') : DTb B W0 W w' T Tp v t := ⟨h.n.then_below hb, h.b, fun x hx => (h.d x hx).below hb⟩
theorem DTb.rtb (h : DTb B W0 W w T Tp v t) (hb : Below B.heap.size B W) : RTb W w T v t := ⟨h.n, fun x hx => (h.d x hx).rat (below_trans hb h.n.below)⟩
theorem DTb.after {W1 : World} (h : DTb B W0 W w T Tp v t) (hb : Below W1.heap.size W1 W) (h0 : Below W0.heap.size W0 W1) : DTb B W0 W1 w T Tp v t := ⟨h.n.after hb, h0, h.d⟩
theorem DTb.nil (hb : Below W.heap.size W w) (h0 : Below W0.heap.size W0 W) (T Tp : TypeId) : DTb B W0 W w T Tp (.slice none 0 0) [] := ⟨NBuf.nil hb _ _, h0, fun x hx => by cases hx⟩
theorem DTb.snoc {wa w2 : World} {v2 : Value} (h : DTb B W0 W wa T Tp v t) (hx : Deep B W0 wa Tp x) (hn : NBuf W w2 T 2 v2 (t.length + 1) (rcs t ++ encR x)) (ha : Ap wa w2 2 v) (h1 : Tp ≠ T) (h2 : 41 ≠ T) : DTb B W0 W w2 T Tp v2 (t ++ [x]) := by
 have hk : Ke (fun U => U = T) wa w2 := Ke.of_ap h.n.buf ha rfl
 have hb := below_trans h.b hn.below
 refine ⟨?_, h.b, fun y hy => ?_⟩
 ·rw [List.length_append, rcs_app]
  have e : rcs [x] = encR x := List.append_nil _
  rw [e]
  exact hn
 ·rcases List.mem_append.1 hy with hy | hy
  ·exact (h.d y hy).ke hk hb h1 h2
  ·obtain rfl := List.mem_singleton.1 hy
   exact hx.ke hk hb h1 h2
end

def RetSm (w : World) (l : List Sm) (e : Ending) (w' : World) : Prop := ∃ v, e = .returned v /\ NBuf w w' 41 2 v l.length (smc l)
theorem blk_ap {w w' : World} {M : Nat} {T : TypeId} {cur : Array Value} (h : Blk w M T cur) {sz : Nat} {v : Value} (ha : Ap w w' sz v) (hne : v.ownBlock ≠ some M) : Blk w' M T cur :=
 (ha.grownBy.block M h.lt (fun e => hne e.symm)).trans h

def putG (s : Sm) : Bool -> List Sm -> List Sm
 | true, l => l
 | false, l => putS l s
theorem putG_true (s : Sm) (x : Sm) (r : List Sm) : putG s true (x :: r) = x :: putG s true r := rfl
theorem putG_eq {s x : Sm} (r : List Sm) (h : x.1 = s.1) : putG s false (x :: r) = x :: putG s true r := by
 show (if x.1 = s.1 then x :: r else _) = _
 rw [if_pos h]; rfl
theorem putG_lt {s x : Sm} (r : List Sm) (h : s.1 < x.1) : putG s false (x :: r) = s :: x :: putG s true r := by
 show (if x.1 = s.1 then x :: r else if s.1 < x.1 then s :: x :: r else _) = _
 rw [if_neg (by omega), if_pos h]; rfl
theorem putG_gt {s x : Sm} (r : List Sm) (h : x.1 < s.1) : putG s false (x :: r) = x :: putG s false r := by
 show (if x.1 = s.1 then x :: r else if s.1 < x.1 then s :: x :: r else x :: putS r s) = _
 rw [if_neg (by omega), if_neg (by omega)]; rfl

theorem rput_any (v : Value) (l : List Sm) (s : Sm) (w : World) (h : SmsAt w v l) (hl : l.length <= 1000000) :
  Calls Tryz.prog 93 #[v, .agg #[.int .i64 s.1, .int .u64 (s.2 : Nat)]] w (RetSm w (putS l s)) := by
 obtain ⟨A, c, rfl, hlc, hcm⟩ := h.shape
 unfold maxLen at hcm
 obtain ⟨R, hR⟩ : ∃ R, R = putS l s := ⟨_, rfl⟩
 rw [<- hR]
 obtain ⟨W, hW⟩ : ∃ W, W = w.alloc (.cells #[.int .i64 s.1, .int .u64 (s.2 : Nat)] 41) := ⟨_, rfl⟩
 have hbW : Below w.heap.size w W := by rw [hW]; exact below_alloc1 _ _
 have hbox : Blk W w.heap.size 41 #[.int .i64 s.1, .int .u64 (s.2 : Nat)] := by rw [hW]; exact Blk.new _ _ _
 have HS := Lib.hid h
 have HR := Lib.hid hR
 have HBW := Lib.hid hbW
 have HBX := Lib.hid hbox
 have hWs : W.heap.size = w.heap.size + 1 := by rw [hW]; simp
 have hn0 := NBuf.lit0 (Below.refl W.heap.size W) 41 2
 rw [hWs] at hn0
 have HN0 := Lib.hid hn0
 have HWS := Lib.hid hWs
 clear h hR hbW hbox hn0 hWs
 go_enter Tryz.func93, Tryz.ntmps93
 go_wp2_with fail
 rw [<- hW]
 clear hW
 go_loopw [5, 6, 12] (fun d f i wr => ∃ (k : Nat) (b : Bool) (O : List Sm), k <= l.length /\ i = .int .i64 k /\ f = .bool b /\ O.length <= k + b.toNat /\ Hid (NBuf W wr 41 2 d O.length (smc O)) /\ Hid (∀ q, d.ownBlock = some q -> q < wr.heap.size) /\ Hid (R = O ++ putG s b (l.drop k))) (fun _ _ i _ => l.length - (intOf i).toNat)
 case atStart => exact ⟨0, false, [], Nat.zero_le _, rfl, rfl, Nat.zero_le _, HN0, Lib.hid (fun q hq => by simp [Value.ownBlock] at hq; subst hq; simp [HWS.out]), Lib.hid HR.out⟩
 case round =>
  obtain ⟨k, b, O, hk, rfl, rfl, hO, HNB, HOW, HRR⟩ := hrel
  obtain ⟨fA, fc, rfl, hfc⟩ := HNB.out.buf.shape
  have hbw := HNB.out.below
  obtain ⟨c0, c1⟩ := (HBX.out.below hbw).c2
  clear HN0 HR
  by_cases hgo : k < l.length
  ·obtain ⟨x, hx⟩ : ∃ x, l[k]? = some x := ⟨_, List.getElem?_eq_getElem hgo⟩
   obtain ⟨xb, xo, rfl, _, x0, x1⟩ := (HS.out.below (below_trans HBW.out hbw)).at_ hx
   have hdr : l.drop k = x :: l.drop (k + 1) := by
    obtain ⟨hlt, he⟩ := List.getElem?_eq_some_iff.1 hx
    rw [List.drop_eq_getElem_cons hlt, he]
   have hrr := HRR.out
   rw [hdr] at hrr
   have HX := Lib.hid hx
   have hbx : Below w.heap.size w (wr.alloc (.cells #[.int .i64 x.1, .int .u64 (x.2 : Nat)] 41)) := below_trans (below_trans HBW.out hbw) (below_alloc1 _ _)
   obtain ⟨d0, d1⟩ := (HBX.out.below (below_trans hbw (below_alloc1 wr (.cells #[.int .i64 x.1, .int .u64 (x.2 : Nat)] 41)))).c2
   have HXB := Lib.hid (Blk.new wr #[.int .i64 x.1, .int .u64 (x.2 : Nat)] 41)
   have HNX := Lib.hid (HNB.out.alloc (.cells #[.int .i64 x.1, .int .u64 (x.2 : Nat)] 41))
   have HNE := Lib.hid (fun (q : Nat) (h : (Value.slice fA O.length fc).ownBlock = some q) => Nat.ne_of_lt (HOW.out q h))
   clear hdr hx
   have hcase : (b = true /\ x.1 = s.1) \/ (b = true /\ x.1 ≠ s.1) \/ (b = false /\ x.1 = s.1) \/ (b = false /\ s.1 < x.1) \/ (b = false /\ x.1 < s.1) := by
    cases b
    ·rcases Int.lt_trichotomy x.1 s.1 with h1 | h1 | h1
     ·exact .inr (.inr (.inr (.inr ⟨rfl, h1⟩)))
     ·exact .inr (.inr (.inl ⟨rfl, h1⟩))
     ·exact .inr (.inr (.inr (.inl ⟨rfl, h1⟩)))
    ·by_cases h1 : x.1 = s.1
     ·exact .inl ⟨rfl, h1⟩
     ·exact .inr (.inl ⟨rfl, h1⟩)
   have hO2 : O.length <= k + 1 := by cases b <;> simp at hO <;> omega
   rcases hcase with ⟨rfl, hc⟩ | ⟨rfl, hc⟩ | ⟨rfl, hc⟩ | ⟨rfl, hc⟩ | ⟨rfl, hc⟩
   case inl =>
    rw [putG_true] at hrr
    have HR2 := Lib.hid hrr
    clear hrr HRR
    have he : (x.1 == s.1) = true := by rw [beq_iff_eq]; exact hc
    clear hc
    go_wp2_with (at_builtin; refine wpList_append_nlit rfl (.tmp 34) (.tmp 36) 32 rfl sm_ty rfl HNX.out rfl (by simp) rfl (by simp [Value.oneCell']) (by simp only [maxLen]; omega) (by omega) ?_; intro v3 w3 hn3 _; have HN3 := Lib.hid hn3; clear hn3)
    go_roundw
    case rel => exact ⟨k + 1, true, O ++ [x], by omega, by go_num, rfl, by simp at hO ⊢; omega, by rw [List.length_append, smc_snoc]; exact HN3, Lib.hid (HN3.out.lt (by omega)), Lib.hid (by rw [HR2.out, List.append_assoc]; rfl)⟩
    case measure => simp [intOf]; omega
   case inr.inl =>
    rw [putG_true] at hrr
    have HR2 := Lib.hid hrr
    clear hrr HRR
    have he : (x.1 == s.1) = false := by rw [beq_eq_false_iff_ne]; omega
    go_wp2_with (at_builtin; refine wpList_append_nlit rfl (.tmp 34) (.tmp 36) 32 rfl sm_ty rfl HNX.out rfl (by simp) rfl (by simp [Value.oneCell']) (by simp only [maxLen]; omega) (by omega) ?_; intro v3 w3 hn3 _; have HN3 := Lib.hid hn3; clear hn3)
    go_roundw
    case rel => exact ⟨k + 1, true, O ++ [x], by omega, by go_num, rfl, by simp at hO ⊢; omega, by rw [List.length_append, smc_snoc]; exact HN3, Lib.hid (HN3.out.lt (by omega)), Lib.hid (by rw [HR2.out, List.append_assoc]; rfl)⟩
    case measure => simp [intOf]; omega
   case inr.inr.inl =>
    rw [putG_eq _ hc] at hrr
    have HR2 := Lib.hid hrr
    clear hrr HRR
    have he : (x.1 == s.1) = true := by rw [beq_iff_eq]; exact hc
    clear hc
    go_wp2_with (at_builtin; refine wpList_append_nlit rfl (.tmp 34) (.tmp 36) 32 rfl sm_ty rfl HNX.out rfl (by simp) rfl (by simp [Value.oneCell']) (by simp only [maxLen]; omega) (by omega) ?_; intro v3 w3 hn3 _; have HN3 := Lib.hid hn3; clear hn3)
    go_roundw
    case rel => exact ⟨k + 1, true, O ++ [x], by omega, by go_num, rfl, by simp at hO ⊢; omega, by rw [List.length_append, smc_snoc]; exact HN3, Lib.hid (HN3.out.lt (by omega)), Lib.hid (by rw [HR2.out, List.append_assoc]; rfl)⟩
    case measure => simp [intOf]; omega
   case inr.inr.inr.inr =>
    rw [putG_gt _ hc] at hrr
    have HR2 := Lib.hid hrr
    clear hrr HRR
    have he : (x.1 == s.1) = false := by rw [beq_eq_false_iff_ne]; omega
    have hd : decide (s.1 < x.1) = false := decide_eq_false (by omega)
    go_wp2_with (at_builtin; refine wpList_append_nlit rfl (.tmp 34) (.tmp 36) 32 rfl sm_ty rfl HNX.out rfl (by simp) rfl (by simp [Value.oneCell']) (by simp only [maxLen]; omega) (by omega) ?_; intro v3 w3 hn3 _; have HN3 := Lib.hid hn3; clear hn3)
    go_roundw
    case rel => exact ⟨k + 1, false, O ++ [x], by omega, by go_num, rfl, by simp at hO ⊢; omega, by rw [List.length_append, smc_snoc]; exact HN3, Lib.hid (HN3.out.lt (by omega)), Lib.hid (by rw [HR2.out, List.append_assoc]; rfl)⟩
    case measure => simp [intOf]; omega
   case inr.inr.inr.inl =>
    rw [putG_lt _ hc] at hrr
    have HR2 := Lib.hid hrr
    clear hrr HRR
    have he : (x.1 == s.1) = false := by rw [beq_eq_false_iff_ne]; omega
    have hd : decide (s.1 < x.1) = true := decide_eq_true hc
    go_wp2_with (at_builtin; first | (refine wpList_append_nlit rfl (.tmp 30) (.tmp 32) 32 rfl sm_ty rfl HNX.out rfl (by simp) rfl (by simp [Value.oneCell']) (by simp only [maxLen]; omega) (by omega) ?_; intro v3 w3 hn3 ha3; have hx3 := (blk_ap (HXB.out.alloc _) ha3 (fun e => HNE.out _ e rfl)).c2; have HN3 := Lib.hid (show NBuf W w3 41 2 v3 (O ++ [s]).length (smc (O ++ [s])) by rw [List.length_append, smc_snoc]; exact hn3); obtain ⟨y0, y1⟩ := hx3; clear hn3 ha3) | (refine wpList_append_nlit rfl (.tmp 34) (.tmp 36) 32 rfl sm_ty rfl HN3.out rfl (by simp) rfl (by simp [Value.oneCell']) (by simp only [maxLen, List.length_append, List.length_cons, List.length_nil]; omega) (by simp only [List.length_append, List.length_cons, List.length_nil]; omega) ?_; intro v4 w4 hn4 _; have HN4 := Lib.hid hn4; clear hn4))
    go_roundw
    case rel => exact ⟨k + 1, true, O ++ [s] ++ [x], by omega, by go_num, rfl, by simp at hO ⊢; omega, by rw [List.length_append, smc_snoc]; exact HN4, Lib.hid (HN4.out.lt (by omega)), Lib.hid (by rw [HR2.out, List.append_assoc, List.append_assoc]; rfl)⟩
    case measure => simp [intOf]; omega
  ·obtain rfl : k = l.length := by omega
   have hrr := HRR.out
   rw [List.drop_length] at hrr
   have hO2 : O.length <= l.length + 1 := by cases b <;> simp at hO <;> omega
   rcases b with _ | _
   ·have hrr : R = O ++ [s] := hrr
    have HR2 := Lib.hid hrr
    clear hrr HRR
    go_wp2_with (at_builtin; refine wpList_append_nlit rfl (.tmp 41) (.tmp 43) 32 rfl sm_ty rfl HNB.out rfl (by simp) rfl (by simp [Value.oneCell']) (by simp only [maxLen]; omega) (by omega) ?_; intro v3 w3 hn3 _; have HN3 := Lib.hid hn3; clear hn3)
    go_ret
    exact ⟨_, rfl, by rw [HR2.out, List.length_append, smc_snoc]; exact HN3.out.after HBW.out⟩
   ·have hrr : R = O := by rw [hrr]; exact List.append_nil _
    have HR2 := Lib.hid hrr
    clear hrr HRR
    go_wp2_with fail
    go_ret
    exact ⟨_, rfl, by rw [HR2.out]; exact HNB.out.after HBW.out⟩
end Go.Proofs.YtgabmfibfikdbaaGreatDoor

namespace Go.Proofs.YtgabmfibfikdbaaGreatDoor
open Go.RowKit Go.Bar Go.Bar.Leb Go.Bar.Lab Go.Bar.Xor Go.Bar.Mrg Go.Bar.Met Go.Bar.Bok

structure Ev where
 ls : List Pr
 la : Option Addr
 lc : Nat
 fr : Int
 n : Int
 mn : Int
 mx : Int
def plE (x : Ev) : En := ⟨x.ls, x.fr, x.n, x.mn, x.mx⟩
def encE (x : Ev) : List Value := [.slice x.la x.ls.length x.lc, .int .i64 x.fr, .int .i64 x.n, .int .i64 x.mn, .int .i64 x.mx]
theorem encE_five (x : Ev) : (encE x).length = 5 := rfl
def ecs (l : List Ev) : List Value := l.flatMap encE
theorem ecs_app (l m : List Ev) : ecs (l ++ m) = ecs l ++ ecs m := List.flatMap_append
abbrev cE (x : Ev) : Array Value := #[.slice x.la x.ls.length x.lc, .int .i64 x.fr, .int .i64 x.n, .int .i64 x.mn, .int .i64 x.mx]
def EsAt (w : World) (v : Value) (l : List Ev) : Prop := SlAt w 5 v l.length (ecs l) /\ ∀ x ∈ l, PsAt w (.slice x.la x.ls.length x.lc) x.ls
section
variable {w w' : World} {v : Value} {l : List Ev}
theorem EsAt.below (h : EsAt w v l) (hb : Below w.heap.size w w') : EsAt w' v l := ⟨h.1.below hb, fun x hx => (h.2 x hx).below hb⟩
theorem EsAt.shape (h : EsAt w v l) : ∃ A c, v = .slice A l.length c /\ l.length <= c /\ c <= maxLen := h.1.shape
theorem EsAt.at_ {A : Option Addr} {n c i : Nat} {x : Ev} (h : EsAt w (.slice A n c) l) (hi : l[i]? = some x) : ∃ b o, A = some ⟨b, o, none⟩ /\ b < w.heap.size /\ PsAt w (.slice x.la x.ls.length x.lc) x.ls /\
  w.cell? ⟨b, o + i * 5, none⟩ = some (.slice x.la x.ls.length x.lc) /\ w.cell? ⟨b, o + i * 5 + 1, none⟩ = some (.int .i64 x.fr) /\ w.cell? ⟨b, o + i * 5 + 2, none⟩ = some (.int .i64 x.n) /\ w.cell? ⟨b, o + i * 5 + 3, none⟩ = some (.int .i64 x.mn) /\ w.cell? ⟨b, o + i * 5 + 4, none⟩ = some (.int .i64 x.mx) := by
 have hlt : i < l.length := (List.getElem?_eq_some_iff.1 hi).1
 obtain ⟨A', c', he, _⟩ := h.1.shape
 injection he with e1 e2 e3
 subst e1; subst e2; subst e3
 obtain ⟨b, o, rfl, hb, hc⟩ := SlAt.cells h.1 (by omega)
 have g := flat_get encE 5 encE_five l i x hi
 exact ⟨b, o, rfl, hb, h.2 x (List.mem_of_getElem? hi), hc _ _ (g 0 (by omega)), hc _ _ (g 1 (by omega)), hc _ _ (g 2 (by omega)), hc _ _ (g 3 (by omega)), hc _ _ (g 4 (by omega))⟩
end
def DeepE (B W0 w : World) (Tp : TypeId) (x : Ev) : Prop := PsAt B (.slice x.la x.ls.length x.lc) x.ls \/ NBuf W0 w Tp 2 (.slice x.la x.ls.length x.lc) x.ls.length (pcs x.ls)
structure DEs (B W0 W w : World) (T Tp : TypeId) (v : Value) (l : List Ev) : Prop where
 n : NBuf W w T 5 v l.length (ecs l)
 b : Below W0.heap.size W0 W
 d : ∀ x ∈ l, DeepE B W0 w Tp x
section
variable {B W0 W w w' : World} {T Tp : TypeId} {v : Value} {l : List Ev} {x : Ev}
theorem DeepE.ke {Ts : TypeId -> Prop} (h : DeepE B W0 w Tp x) (hk : Ke Ts w w') (hb : Below W0.heap.size W0 w') (h1 : ¬ Ts Tp) : DeepE B W0 w' Tp x := h.imp id fun h => nbuf_ke h hk hb h1
theorem DeepE.below (h : DeepE B W0 w Tp x) (hb : Below w.heap.size w w') : DeepE B W0 w' Tp x := h.imp id fun h => h.then_below hb
theorem DeepE.rat (h : DeepE B W0 w Tp x) (hb : Below B.heap.size B w) : PsAt w (.slice x.la x.ls.length x.lc) x.ls := h.elim (fun h => h.below hb) fun h => h.slice
theorem DeepE.after {W1 : World} (h : DeepE B W0 w Tp x) (hb : Below W1.heap.size W1 W0) : DeepE B W1 w Tp x := h.imp id fun h => h.after hb
theorem DEs.below (h : DEs B W0 W w T Tp v l) (hb : Below w.heap.size w w') : DEs B W0 W w' T Tp v l := ⟨h.n.then_below hb, h.b, fun x hx => (h.d x hx).below hb⟩
theorem DEs.at_ (h : DEs B W0 W w T Tp v l) (hb : Below B.heap.size B w) : EsAt w v l := ⟨h.n.slice, fun x hx => (h.d x hx).rat hb⟩
theorem DEs.ke {Ts : TypeId -> Prop} (h : DEs B W0 W w T Tp v l) (hk : Ke Ts w w') (hb : Below W.heap.size W w') (h1 : ¬ Ts T) (h2 : ¬ Ts Tp) : DEs B W0 W w' T Tp v l := ⟨nbuf_ke h.n hk hb h1, h.b, fun x hx => (h.d x hx).ke hk (below_trans h.b hb) h2⟩
theorem DEs.after {W1 : World} (h : DEs B W0 W w T Tp v l) (hb : Below W1.heap.size W1 W) (h0 : Below W0.heap.size W0 W1) : DEs B W0 W1 w T Tp v l := ⟨h.n.after hb, h0, h.d⟩
theorem DEs.up {W1 : World} (h : DEs B W0 W0 w T Tp v l) (hb : Below W1.heap.size W1 W0) : DEs B W1 W1 w T Tp v l := ⟨h.n.after hb, Below.refl _ _, fun x hx => (h.d x hx).after hb⟩
theorem DEs.nil (hb : Below W.heap.size W w) (h0 : Below W0.heap.size W0 W) (T Tp : TypeId) : DEs B W0 W w T Tp (.slice none 0 0) [] := ⟨NBuf.nil hb _ _, h0, fun x hx => by cases hx⟩
theorem DEs.snoc {wa w2 : World} {v2 : Value} (h : DEs B W0 W wa T Tp v l) (hx : DeepE B W0 wa Tp x) (hn : NBuf W w2 T 5 v2 (l.length + 1) (ecs l ++ encE x)) (ha : Ap wa w2 5 v) (h1 : Tp ≠ T) : DEs B W0 W w2 T Tp v2 (l ++ [x]) := by
 have hk : Ke (fun U => U = T) wa w2 := Ke.of_ap h.n.buf ha rfl
 have hb := below_trans h.b hn.below
 refine ⟨?_, h.b, fun y hy => ?_⟩
 ·rw [List.length_append, ecs_app]
  have e : ecs [x] = encE x := List.append_nil _
  rw [e]
  exact hn
 ·rcases List.mem_append.1 hy with hy | hy
  ·exact (h.d y hy).ke hk hb h1
  ·obtain rfl := List.mem_singleton.1 hy
   exact hx.ke hk hb h1
end

def RetNb (w0 W : World) (xs : List UInt8) (e : Ending) (w' : World) : Prop := ∃ v, e = .returned v /\ NBuf w0 w' 5 1 v xs.length (bcs xs) /\ Ke (fun T => T = 5) W w'
theorem RetNb.of {w0 W : World} {V : Value} {xs ys : List UInt8} {e : Ending} {w' : World} (h : NBuf w0 W 5 1 V xs.length (bcs xs)) (hr : RetB W V 5 xs ys e w') : RetNb w0 W (xs ++ ys) e w' := by
 obtain ⟨v, rfl, ha⟩ := hr
 exact ⟨v, rfl, h.step ha.buf ha.ap ha.grew, Ke.of_ap h.buf ha.ap rfl⟩

theorem entry_ty : ElemTy Tryz.prog 25 45 (.agg #[.slice none 0 0, .int .i64 0, .int .i64 0, .int .i64 0, .int .i64 0]) 5 56 :=
 ⟨Tryz.underlying25, info_parts (show (Tryz.prog.info? 45).map (fun i => (i.zero, i.size, i.bytes)) = some (some (.agg #[.slice none 0 0, .int .i64 0, .int .i64 0, .int .i64 0, .int .i64 0]), 5, 56) by kernel_rfl), rfl⟩

theorem rentry_ty : ElemTy Tryz.prog 29 114 (.agg #[.slice none 0 0, .int .i64 0, .int .i64 0, .int .i64 0, .int .i64 0]) 5 56 :=
 ⟨Tryz.underlying29, info_parts (show (Tryz.prog.info? 114).map (fun i => (i.zero, i.size, i.bytes)) = some (some (.agg #[.slice none 0 0, .int .i64 0, .int .i64 0, .int .i64 0, .int .i64 0]), 5, 56) by kernel_rfl), rfl⟩

end Go.Proofs.YtgabmfibfikdbaaGreatDoor

set_option maxHeartbeats 32000000
set_option maxRecDepth 10000
namespace Go.Proofs.YtgabmfibfikdbaaGreatDoor
open Go.RowKit Go.Bar Go.Bar.Leb Go.Bar.Lab Go.Bar.Xor Go.Bar.Mrg Go.Bar.Met Go.Bar.Bok

theorem flat_take_leE (l : List En) (k : Nat) : ((l.take k).flatMap enB).length <= (l.flatMap enB).length := by
  conv => rhs; rw [<- List.take_append_drop k l, List.flatMap_append, List.length_append]
  omega
theorem idx_take {l : List En} {k : Nat} {x : En} (h : l[k]? = some x) : u l.length ++ (l.take (k + 1)).flatMap enB = ((((u l.length ++ (l.take k).flatMap enB) ++ key x.ls) ++ (u (w64 x.fr) ++ u (w64 x.n))) ++ (u (w64 x.mn) ++ u (w64 x.mx))) := by
  rw [List.take_add_one, h, Option.toList_some, List.flatMap_append]
  unfold enB enT
  simp [List.append_assoc]
theorem idx_len (l : List En) (k : Nat) : (u l.length ++ (l.take k).flatMap enB).length <= (idxD l).length := by
  have := flat_take_leE l k
  unfold idxD
  rw [List.length_append, List.length_append]
  omega

theorem kindex_any (v : Value) (l : List Ev) (w : World) (h : EsAt w v l) (hd : (idxD (l.map plE)).length <= 1000000000) (hp : ∀ x ∈ l, x.ls.length <= 1000 /\ ∀ p ∈ x.ls, p.1.length <= 1000000 /\ p.2.length <= 1000000) (hn : l.length <= 1000000000) :
    Calls Tryz.prog 17 #[v] w (RetBelow w (.string (bs (idxB (l.map plE))))) := by
  obtain ⟨A, c, rfl, hlc, hcm⟩ := h.shape
  unfold maxLen at hcm
  obtain ⟨L, hL⟩ : ∃ L, L = l.map plE := ⟨_, rfl⟩
  have hLl : L.length = l.length := by rw [hL, List.length_map]
  rw [<- hL] at hd ⊢
  have hu := u_len l.length (by omega)
  have hil := idx_len L
  have HIL := Lib.hid hil
  have HL := Lib.hid hL
  have HLL := Lib.hid hLl
  have HT := Lib.hid h
  have hconv : IntKind.u64.wrap (l.length : Int) = (l.length : Int) := by rw [IntKind.wrap_u64]; omega
  clear hL hLl h hil
  go_enter Tryz.func17, Tryz.ntmps17
  go_wp2_with fail
  refine (uint_any (.slice none 0 0) [] l.length _ (by omega) (by simp) (BBuf.nil _ _)).mono ?_
  rintro e w1 ⟨v1, rfl, h1⟩
  clear hconv
  go_wp2_with fail
  go_loopw [12, 3] (fun i b wr => ∃ (k : Nat) (ys : List UInt8), k <= l.length /\ i = .int .i64 k /\ BApp w (.slice none 0 0) 5 [] wr b ys /\ Hid (ys = u L.length ++ (L.take k).flatMap enB)) (fun i _ _ => l.length - (intOf i).toNat)
  case atStart => exact ⟨0, _, Nat.zero_le _, rfl, h1, Lib.hid (by rw [HLL.out]; simp)⟩
  case round =>
    clear h1
    obtain ⟨k, ys, hk, rfl, hch, hy⟩ := hrel
    have hB := hch.nil_below
    by_cases hgo : k < l.length
    · obtain ⟨x, hxk⟩ : ∃ x, l[k]? = some x := ⟨_, List.getElem?_eq_getElem hgo⟩
      obtain ⟨b, o, rfl, hbb, hps, g0, g1, g2, g3, g4⟩ := (HT.out.below hB).at_ hxk
      obtain ⟨hp1, hp2⟩ := hp x (List.mem_of_getElem? hxk)
      have hit := idx_take (l := L) (k := k) (x := plE x) (by rw [HL.out, List.getElem?_map, hxk]; rfl)
      have hyl := HIL.out (k + 1)
      rw [hit, <- hy.out] at hyl
      rw [<- hy.out] at hit
      simp only [List.length_append] at hyl
      have HIT := Lib.hid hit
      have hyl : ys.length + (key x.ls).length + ((u (w64 x.fr)).length + (u (w64 x.n)).length) + ((u (w64 x.mn)).length + (u (w64 x.mx)).length) <= (idxD L).length := hyl
      obtain ⟨K, hK⟩ : ∃ K, K = key x.ls := ⟨_, rfl⟩
      obtain ⟨wb, hwb⟩ : ∃ wb, wb = wr.alloc (.cells (cE x) 45) := ⟨_, rfl⟩
      have hb2 : Below wr.heap.size wr wb := by rw [hwb]; exact below_al _ _
      have hck : Blk wb wr.heap.size 45 (cE x) := by rw [hwb]; exact Blk.new _ _ _
      have hkey := key_any (.slice x.la x.ls.length x.lc) x.ls wb (hps.below hb2) hp1 hp2
      have hch := hch.below hb2
      rw [<- hK] at hkey hyl
      have HKEY := Lib.hid hkey
      have HK := Lib.hid hK
      clear hxk hit hkey hK hps hp1 hp2
      go_upto_region 5 with fail
      have hwb' : wb = wr.alloc (.cells #[.slice x.la x.ls.length x.lc, .int .i64 x.fr, .int .i64 x.n, .int .i64 x.mn, .int .i64 x.mx] 45) := hwb
      rw [<- hwb']
      obtain ⟨X, hX⟩ : ∃ X, X = wr.heap.size := ⟨_, rfl⟩
      rw [<- hX] at hck ⊢
      clear hwb hwb' hX g0 g1 g2 g3 g4 hb2
      obtain ⟨c0, c1, c2, c3, c4⟩ := hck.c5
      go_wp2_with fail
      refine HKEY.out.mono ?_
      rintro e w5 ⟨rfl, hb5⟩
      have hck := hck.below hb5
      have hch := hch.below hb5
      have e1 : (bs K).size = K.length := rfl
      have hyl5 : ys.length + K.length <= 1000000000 := by omega
      clear c0 c1 c2 c3 c4 hb5
      go_wp2_with (at_builtin; refine wpList_append_str rfl (.tmp 16) (.tmp 19) 96 9 rfl bytes_ty Tryz.underlying9 (bs K) rfl (BApp.start' hch.buf) rfl (by rw [e1]; simp; omega) ?_; intro v6 w6 hch6; have hck6 := hck.ap hch.buf hch6.ap (by decide); have hch7 := hch.trans hch6; rw [List.nil_append, bs_data] at hch7; obtain ⟨c0, c1, c2, c3, c4⟩ := hck6.c5; clear hch6)
      clear c0 c1 c2 c3 c4
      obtain ⟨WX, hWX⟩ : ∃ WX : World, WX = w := ⟨_, rfl⟩
      rw [<- hWX] at hch7
      -- REGIONS
      obtain ⟨Yw9, hYw9⟩ : ∃ Yw9, Yw9 = ys ++ K := ⟨_, rfl⟩
      rw [<- hYw9] at hch7
      have HYw9 := Lib.hid hYw9
      clear hYw9
      have hbxw9 := hch7.buf
      rw [List.nil_append] at hbxw9
      obtain ⟨q9, hq9⟩ : ∃ q9, q9 = Yw9 := ⟨_, rfl⟩
      rw [<- hq9] at hbxw9
      have hqlw9 : q9.length + (u (w64 x.fr)).length + (u (w64 x.n)).length <= 1000000000 := by rw [hq9, HYw9.out]; simp only [List.length_append]; omega
      have HSTw9 := Lib.hid (show BApp w6 v6 5 q9 w6 v6 [] from BApp.start' hbxw9)
      have HCLw9 : Hid (∀ w v zs, BApp w6 v6 5 q9 w v zs -> (fun w => w.cell? ⟨X, 1, none⟩ = some (.int .i64 x.fr) /\ w.cell? ⟨X, 2, none⟩ = some (.int .i64 x.n)) w) := Lib.hid (fun w v zs h => by
        have hk := hck6.ap hbxw9 h.ap (by decide)
        exact ⟨hk.cell (i := 1) rfl, hk.cell (i := 2) rfl⟩)
      have HENw9 : Hid (∀ w v, BApp w6 v6 5 q9 w v (u (w64 x.fr) ++ u (w64 x.n)) -> Blk w X 45 (cE x) /\ BApp WX (.slice none 0 0) 5 [] w v (Yw9 ++ (u (w64 x.fr) ++ u (w64 x.n)))) := Lib.hid (fun w v h => ⟨hck6.ap hbxw9 h.ap (by decide), by
        rw [hq9] at h
        exact hch7.trans (by rw [List.nil_append]; exact h)⟩)
      clear hq9 hbxw9 hck6 hch7
      refine Dk.wp_region_chain (fun k => List.lookup k [(2, (isV (.int .i64 x.fr), Dk.noK)), (4, ((fun _ => True), Dk.KF 8 (fun v w => BApp w6 v6 5 q9 w v (u (w64 x.fr))))), (6, (isV (.int .i64 x.n), Dk.noK)), (8, ((fun _ => True), Dk.KL (fun v w => BApp w6 v6 5 q9 w v (u (w64 x.fr) ++ u (w64 x.n)))))])
        (Dk.RWs [4, 8]) (Dk.SX 4 (fun w => BApp w6 v6 5 q9 w v6 []) (fun w => w.cell? ⟨X, 1, none⟩ = some (.int .i64 x.fr) /\ w.cell? ⟨X, 2, none⟩ = some (.int .i64 x.n))) (by kernel_rfl) 45 (by kernel_rfl) rfl ?_ ?_ ?_ ?_ ?_ ?_
      · apply Dk.lookup_all (p := fun _ (g : (Value -> Prop) × (Value -> (Nat -> Bool) -> World -> Prop)) => ∃ v, g.1 v)
        simp only [List.forall_mem_cons, List.not_mem_nil, false_imp_iff, implies_true, and_true]
        exact ⟨⟨_, rfl⟩, ⟨undef, trivial⟩, ⟨_, rfl⟩, ⟨undef, trivial⟩⟩
      · refine Dk.lookup_all ?_
        simp only [List.forall_mem_cons, List.not_mem_nil, false_imp_iff, implies_true, and_true]
        refine ⟨?_, ?_, ?_, ?_⟩
        all_goals first
          | exact fun _ _ _ _ _ _ _ _ _ _ _ => trivial
          | exact Dk.KF.keep (by kernel_rfl)
          | exact Dk.KL.keep (by kernel_rfl)
      · refine Dk.lookup_all ?_
        simp only [List.forall_mem_cons, List.not_mem_nil, false_imp_iff, implies_true, and_true]
        refine ⟨?_, ?_, ?_, ?_⟩
        all_goals first
          | exact fun _ _ _ _ _ _ => trivial
          | exact fun _ _ _ _ _ h => Dk.KF.pure h
          | exact fun _ _ _ _ _ h => h
      · exact Dk.SX.pure rfl
      · exact ⟨fun _ => HSTw9.out.drew, HCLw9.out _ _ _ HSTw9.out.drew⟩
      refine Dk.Chain.weaken (F := Dk.atK []) (fun _ _ _ _ => trivial) ?_
      repeat
        first
        | (refine Dk.Chain.step (v := ?_) (a' := ?_) rfl rfl rfl ?_ ?_ ?_
           rotate_left 2
           focus (intro w; go_simp; try with_reducible rfl)
           focus (simp only [Act.put, List.setIfInBounds_toArray, List.set_cons_succ, List.set_cons_zero]; try rfl))
        | (refine Dk.Chain.call (a' := ?_) _ rfl rfl rfl rfl (fun D wx hx hD hF => ?_) ?_ ?_
           rotate_left 1
           focus
             obtain ⟨g0, g1⟩ := hx.2
             go_simp
             exact ⟨Dk.RWs.no, hx.other (by decide)⟩
           focus (simp only [Act.put, List.setIfInBounds_toArray, List.set_cons_succ, List.set_cons_zero]; try rfl))
        | (refine Dk.Chain.make _ _ rfl rfl rfl (fun D wx hx hD hF => ?_) (fun vk hvk a' ha => ?_)
           focus
             go_simp
             first
             | (have h0 := hx.1 hD
                have hb0 := h0.buf
                rw [List.append_nil] at hb0
                (with_reducible refine (uint_w v6 q9 x.fr wx (by omega) hb0).mono ?_)
                rintro e w' ⟨v3, rfl, h3⟩
                have h4 := h0.trans (by rw [List.append_nil]; exact h3)
                rw [List.nil_append] at h4
                have hX : Dk.SX 4 (fun w => BApp w6 v6 5 q9 w v6 []) (fun w => w.cell? ⟨X, 1, none⟩ = some (.int .i64 x.fr) /\ w.cell? ⟨X, 2, none⟩ = some (.int .i64 x.n)) (Dn.upd D 4) w' := Dk.SX.first (HCLw9.out _ _ _ h4)
                exact And.intro (Dk.RWs.yes rfl) (And.intro hX (fun _ => h4)))
             | (have h0 := (show Dk.KF 8 (fun v w => BApp w6 v6 5 q9 w v (u (w64 x.fr))) vk D wx from Dk.atK_get' (hF 4 (by kernel_rfl)).2 rfl) hD
                (with_reducible refine (uint_w vk (q9 ++ u (w64 x.fr)) x.n wx (by rw [List.length_append]; omega) h0.buf).mono ?_)
                rintro e w' ⟨v3, rfl, h3⟩
                have h4 := h0.trans h3
                exact And.intro (Dk.RWs.yes rfl) (And.intro (Dk.SX.later (hF 4 (by kernel_rfl)).1 (by decide) (HCLw9.out _ _ _ h4)) h4))
           simp only [Act.put, List.setIfInBounds_toArray, List.set_cons_succ, List.set_cons_zero] at ha
           subst ha)
      refine Dk.Chain.end_facts (fun D w9 hX hF => ?_)
      obtain ⟨hck9, hch9⟩ := HENw9.out _ _ (show Dk.KL (fun v w => BApp w6 v6 5 q9 w v (u (w64 x.fr) ++ u (w64 x.n))) vk D w9 from Dk.atK_get' (hF 8) rfl)
      obtain ⟨v9, rfl⟩ : ∃ v9, v9 = vk := ⟨_, rfl⟩
      clear hX hF HSTw9 HCLw9 HENw9
      go_upto_region 7 with fail
      obtain ⟨Yw10, hYw10⟩ : ∃ Yw10, Yw10 = Yw9 ++ (u (w64 x.fr) ++ u (w64 x.n)) := ⟨_, rfl⟩
      rw [<- hYw10] at hch9
      have HYw10 := Lib.hid (show Yw10 = (ys ++ K) ++ (u (w64 x.fr) ++ u (w64 x.n)) by rw [hYw10, HYw9.out])
      clear hYw10
      have hbxw10 := hch9.buf
      rw [List.nil_append] at hbxw10
      obtain ⟨q10, hq10⟩ : ∃ q10, q10 = Yw10 := ⟨_, rfl⟩
      rw [<- hq10] at hbxw10
      have hqlw10 : q10.length + (u (w64 x.mn)).length + (u (w64 x.mx)).length <= 1000000000 := by rw [hq10, HYw10.out]; simp only [List.length_append]; omega
      have HSTw10 := Lib.hid (show BApp w9 v9 5 q10 w9 v9 [] from BApp.start' hbxw10)
      have HCLw10 : Hid (∀ w v zs, BApp w9 v9 5 q10 w v zs -> (fun w => w.cell? ⟨X, 3, none⟩ = some (.int .i64 x.mn) /\ w.cell? ⟨X, 4, none⟩ = some (.int .i64 x.mx)) w) := Lib.hid (fun w v zs h => by
        have hk := hck9.ap hbxw10 h.ap (by decide)
        exact ⟨hk.cell (i := 3) rfl, hk.cell (i := 4) rfl⟩)
      have HENw10 : Hid (∀ w v, BApp w9 v9 5 q10 w v (u (w64 x.mn) ++ u (w64 x.mx)) -> Blk w X 45 (cE x) /\ BApp WX (.slice none 0 0) 5 [] w v (Yw10 ++ (u (w64 x.mn) ++ u (w64 x.mx)))) := Lib.hid (fun w v h => ⟨hck9.ap hbxw10 h.ap (by decide), by
        rw [hq10] at h
        exact hch9.trans (by rw [List.nil_append]; exact h)⟩)
      clear hq10 hbxw10 hck9 hch9
      refine Dk.wp_region_chain (fun k => List.lookup k [(2, (isV (.int .i64 x.mn), Dk.noK)), (4, ((fun _ => True), Dk.KF 8 (fun v w => BApp w9 v9 5 q10 w v (u (w64 x.mn))))), (6, (isV (.int .i64 x.mx), Dk.noK)), (8, ((fun _ => True), Dk.KL (fun v w => BApp w9 v9 5 q10 w v (u (w64 x.mn) ++ u (w64 x.mx)))))])
        (Dk.RWs [4, 8]) (Dk.SX 4 (fun w => BApp w9 v9 5 q10 w v9 []) (fun w => w.cell? ⟨X, 3, none⟩ = some (.int .i64 x.mn) /\ w.cell? ⟨X, 4, none⟩ = some (.int .i64 x.mx))) (by kernel_rfl) 45 (by kernel_rfl) rfl ?_ ?_ ?_ ?_ ?_ ?_
      · apply Dk.lookup_all (p := fun _ (g : (Value -> Prop) × (Value -> (Nat -> Bool) -> World -> Prop)) => ∃ v, g.1 v)
        simp only [List.forall_mem_cons, List.not_mem_nil, false_imp_iff, implies_true, and_true]
        exact ⟨⟨_, rfl⟩, ⟨undef, trivial⟩, ⟨_, rfl⟩, ⟨undef, trivial⟩⟩
      · refine Dk.lookup_all ?_
        simp only [List.forall_mem_cons, List.not_mem_nil, false_imp_iff, implies_true, and_true]
        refine ⟨?_, ?_, ?_, ?_⟩
        all_goals first
          | exact fun _ _ _ _ _ _ _ _ _ _ _ => trivial
          | exact Dk.KF.keep (by kernel_rfl)
          | exact Dk.KL.keep (by kernel_rfl)
      · refine Dk.lookup_all ?_
        simp only [List.forall_mem_cons, List.not_mem_nil, false_imp_iff, implies_true, and_true]
        refine ⟨?_, ?_, ?_, ?_⟩
        all_goals first
          | exact fun _ _ _ _ _ _ => trivial
          | exact fun _ _ _ _ _ h => Dk.KF.pure h
          | exact fun _ _ _ _ _ h => h
      · exact Dk.SX.pure rfl
      · exact ⟨fun _ => HSTw10.out.drew, HCLw10.out _ _ _ HSTw10.out.drew⟩
      refine Dk.Chain.weaken (F := Dk.atK []) (fun _ _ _ _ => trivial) ?_
      repeat
        first
        | (refine Dk.Chain.step (v := ?_) (a' := ?_) rfl rfl rfl ?_ ?_ ?_
           rotate_left 2
           focus (intro w; go_simp; try with_reducible rfl)
           focus (simp only [Act.put, List.setIfInBounds_toArray, List.set_cons_succ, List.set_cons_zero]; try rfl))
        | (refine Dk.Chain.call (a' := ?_) _ rfl rfl rfl rfl (fun D wx hx hD hF => ?_) ?_ ?_
           rotate_left 1
           focus
             obtain ⟨g0, g1⟩ := hx.2
             go_simp
             exact ⟨Dk.RWs.no, hx.other (by decide)⟩
           focus (simp only [Act.put, List.setIfInBounds_toArray, List.set_cons_succ, List.set_cons_zero]; try rfl))
        | (refine Dk.Chain.make _ _ rfl rfl rfl (fun D wx hx hD hF => ?_) (fun vk hvk a' ha => ?_)
           focus
             go_simp
             first
             | (have h0 := hx.1 hD
                have hb0 := h0.buf
                rw [List.append_nil] at hb0
                (with_reducible refine (uint_w v9 q10 x.mn wx (by omega) hb0).mono ?_)
                rintro e w' ⟨v3, rfl, h3⟩
                have h4 := h0.trans (by rw [List.append_nil]; exact h3)
                rw [List.nil_append] at h4
                have hX : Dk.SX 4 (fun w => BApp w9 v9 5 q10 w v9 []) (fun w => w.cell? ⟨X, 3, none⟩ = some (.int .i64 x.mn) /\ w.cell? ⟨X, 4, none⟩ = some (.int .i64 x.mx)) (Dn.upd D 4) w' := Dk.SX.first (HCLw10.out _ _ _ h4)
                exact And.intro (Dk.RWs.yes rfl) (And.intro hX (fun _ => h4)))
             | (have h0 := (show Dk.KF 8 (fun v w => BApp w9 v9 5 q10 w v (u (w64 x.mn))) vk D wx from Dk.atK_get' (hF 4 (by kernel_rfl)).2 rfl) hD
                (with_reducible refine (uint_w vk (q10 ++ u (w64 x.mn)) x.mx wx (by rw [List.length_append]; omega) h0.buf).mono ?_)
                rintro e w' ⟨v3, rfl, h3⟩
                have h4 := h0.trans h3
                exact And.intro (Dk.RWs.yes rfl) (And.intro (Dk.SX.later (hF 4 (by kernel_rfl)).1 (by decide) (HCLw10.out _ _ _ h4)) h4))
           simp only [Act.put, List.setIfInBounds_toArray, List.set_cons_succ, List.set_cons_zero] at ha
           subst ha)
      refine Dk.Chain.end_facts (fun D w10 hX hF => ?_)
      obtain ⟨hck10, hch10⟩ := HENw10.out _ _ (show Dk.KL (fun v w => BApp w9 v9 5 q10 w v (u (w64 x.mn) ++ u (w64 x.mx))) vk D w10 from Dk.atK_get' (hF 8) rfl)
      obtain ⟨v10, rfl⟩ : ∃ v10, v10 = vk := ⟨_, rfl⟩
      clear hX hF HSTw10 HCLw10 HENw10
      -- REGIONS END
      go_wp2_with fail
      go_roundw
      case rel => exact ⟨k + 1, _, by omega, by go_num, by rw [hWX] at hch10; exact hch10, Lib.hid (by rw [HIT.out, HYw10.out, HK.out]; rfl)⟩
      case measure => simp [intOf]; omega
    · obtain rfl : k = l.length := by omega
      have hys := hy.out
      rw [show L.take l.length = L from by rw [<- HLL.out, List.take_length]] at hys
      replace hys : ys = idxD L := hys
      have hc := hch.buf.string bytes_ty 9 Tryz.underlying9
      rw [List.nil_append] at hc
      have hap : ∀ w, Calls Tryz.prog 50 #[.slice none 0 0, .agg #[.int .u8 5, .string (bs ys)]] w (RetB w (.slice none 0 0) 5 [] (Frm.rec (5, ys))) := fun w => append_any (.slice none 0 0) [] 5 (bs ys) w (by rw [bs_size, hys]; simp; omega) (BBuf.nil _ _)
      have HAP := Lib.hid hap
      have HYS := Lib.hid hys
      clear hys hy hap
      go_wp2_with fail
      refine (HAP.out _).mono ?_
      rintro e w5 ⟨v5, rfl, h5⟩
      have hc := h5.buf.string bytes_ty 9 Tryz.underlying9
      rw [List.nil_append] at hc
      have HB := Lib.hid (below_trans hB h5.nil_below)
      go_wp2_with fail
      go_ret
      refine ⟨?_, HB.out⟩
      rw [HYS.out]
      rfl
end Go.Proofs.YtgabmfibfikdbaaGreatDoor
