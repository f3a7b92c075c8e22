/-
  Layer 6: the walks of the reference's Check, Key and Compare.
-/
import Derived.Test.YtpjicajifdandaaDoorLabS
import Derived.Deep.QuietTactic
import Derived.BigQuiet
namespace Go.Proofs.YtpjicajifdandaaDoor
open Go.RowKit Go.Bar Go.Bar.Leb Go.Bar.Lab

/-- a pair that may stand at its place, as the reference says it -/
def goodR (l : List Pr) (i : Nat) : Prop := okP (l.getD i ([], [])) = true ∧ ∀ k, k < i → (l.getD k ([], [])).1 < (l.getD i ([], [])).1
theorem ok_iffR (l : List Pr) : Ok l ↔ 0 < l.length ∧ l.length ≤ 8 ∧ ∀ i, i < l.length → goodR l i := by
  rw [ok_iff]
  constructor
  · rintro ⟨h1, h2, h3⟩
    refine ⟨h1, h2, fun i hi => ⟨(h3 i hi).1, fun k hk => ?_⟩⟩
    have := chain_lt h3 (i - k - 1) k (by omega)
    rwa [show k + (i - k - 1) + 1 = i by omega] at this
  · rintro ⟨h1, h2, h3⟩
    exact ⟨h1, h2, fun i hi => ⟨(h3 i hi).1, fun h0 => (h3 i hi).2 (i - 1) (by omega)⟩⟩

set_option maxHeartbeats 8000000 in
set_option maxRecDepth 10000 in
theorem rcheck_any6 (v : Value) (l : List Pr) (w : World) (h : PsAt w v l) (hp : ∀ p ∈ l, p.1.length ≤ 1000000000000) :
    Calls Tryd.prog 15 #[v] w (RetBelow w (.bool (chk l))) := by
  obtain ⟨A, c, rfl, hlc, hcm⟩ := h.shape
  unfold maxLen at hcm
  obtain ⟨Z, hZ⟩ : ∃ Z, Z = chk l := ⟨_, rfl⟩
  rw [← hZ]
  have HB := Lib.hid (fun k (hk : k < l.length) (h : ¬ goodR l k) => hZ.trans (chk_false (fun h' => h (((ok_iffR l).1 h').2.2 k hk))))
  have HN := Lib.hid (fun (h : ¬ Ok l) => hZ.trans (chk_false h))
  have HY := Lib.hid (fun (h : Ok l) => hZ.trans (chk_true h))
  clear hZ
  by_cases h0 : l.length = 0
  · have hz := HN.out (fun h => by have := h.1; omega)
    have hb : ((l.length : Int) == 0) = true := by rw [beq_iff_eq]; omega
    subst hz
    clear h0 HB HN HY
    go_enter Tryd.func15, Tryd.ntmps15
    go_wp2_with fail
    go_ret
    exact ⟨rfl, Below.refl _ _⟩
  · have hb : ((l.length : Int) == 0) = false := by rw [beq_eq_false_iff_ne]; omega
    have h0 : 0 < l.length := by omega
    by_cases h8 : 8 < l.length
    · have hz := HN.out (fun h => by have := h.2.1; omega)
      subst hz
      clear HB HN HY
      go_enter Tryd.func15, Tryd.ntmps15
      go_wp2_with fail
      go_ret
      exact ⟨rfl, Below.refl _ _⟩
    · have h8 : decide (8 < (l.length : Int)) = false := decide_eq_false (by omega)
      go_enter Tryd.func15, Tryd.ntmps15
      go_wp2_with fail
      go_loopw [16] (fun i wr => ∃ k : Nat, k ≤ l.length ∧ i = .int .i64 k ∧ Below w.heap.size w wr ∧ Hid (∀ j, j < k → goodR l j)) (fun i _ => l.length - (intOf i).toNat)
      case atStart => exact ⟨0, Nat.zero_le _, rfl, Below.refl _ _, Lib.hid (fun j hj => absurd hj (Nat.not_lt_zero j))⟩
      case round =>
        obtain ⟨m, hm, rfl, hbl, hgd⟩ := hrel
        by_cases hgo : m < l.length
        · obtain ⟨p, hpk⟩ : ∃ p, l[m]? = some p := ⟨_, List.getElem?_eq_getElem hgo⟩
          obtain ⟨b, o, rfl, hbb, g1, g2⟩ := (h.below hbl).at_ hpk
          have hpl := hp p (List.mem_of_getElem? hpk)
          have hpd : l.getD m ([], []) = p := by rw [List.getD_eq_getElem?_getD, hpk]; rfl
          have HPD := Lib.hid hpd
          have hck := Blk.new wr #[.string (bs p.1), .string (bs p.2)] 61
          have hgn := fun w => rname_any p.1 w hpl
          have hbl2 := below_trans hbl (below_alloc1 wr (.cells #[.string (bs p.1), .string (bs p.2)] 61))
          clear hpk hpd
          rcases hn : nameB p.1 with _ | _
          · have HZ := Lib.hid (HB.out m hgo (fun h => by have := (okP_iff p).1 (by have := h.1; rwa [HPD.out] at this); rw [hn] at this; exact absurd this.1 (by simp)))
            rw [hn] at hgn
            have HGN := Lib.hid hgn
            clear hgn hn
            go_wp2_with fail
            refine (HGN.out _).mono ?_
            rintro e w2 ⟨rfl, rfl⟩
            go_wp2_with fail
            go_ret
            exact ⟨by rw [HZ.out]; rfl, hbl2⟩
          · rw [hn] at hgn
            have HGN := Lib.hid hgn
            by_cases he : p.2 = []
            · have HZ := Lib.hid (HB.out m hgo (fun h => ((okP_iff p).1 (by have := h.1; rwa [HPD.out] at this)).2.1 he))
              have hb1 : (p.2 == []) = true := by rw [beq_iff_eq]; exact he
              have hb2 : p.2.isEmpty = true := by rw [he]; rfl
              clear hgn hn he
              go_wp2_with fail
              refine (HGN.out _).mono ?_
              rintro e w2 ⟨rfl, rfl⟩
              go_wp2_with fail
              go_ret
              exact ⟨by rw [HZ.out]; rfl, hbl2⟩
            · have hb1 : (p.2 == []) = false := by rw [beq_eq_false_iff_ne]; exact he
              have hb2 : p.2.isEmpty = false := by rw [List.isEmpty_eq_false_iff]; exact he
              by_cases hl4 : p.2.length ≤ 40
              · have hd4 : decide (40 < (p.2.length : Int)) = false := decide_eq_false (by omega)
                have HOK := Lib.hid ((okP_iff p).2 ⟨hn, he, hl4⟩)
                obtain ⟨wo, hwo⟩ : ∃ wo, wo = wr.alloc (.cells #[.string (bs p.1), .string (bs p.2)] 61) := ⟨_, rfl⟩
                obtain ⟨MX, hMX⟩ : ∃ MX, MX = wr.heap.size := ⟨_, rfl⟩
                clear hgn hn he hl4
                go_wp2_with fail
                refine (HGN.out _).mono ?_
                rintro e w2 ⟨rfl, rfl⟩
                go_wp2_with fail
                have HBL2 := Lib.hid (show Below w.heap.size w wo by rw [hwo]; exact hbl2)
                have HCK := Lib.hid (show Blk wo MX 61 #[.string (bs p.1), .string (bs p.2)] by rw [hwo, hMX]; exact hck)
                rw [← hwo, ← hMX]
                clear hwo g1 g2 hbl hbl2 hck
                clear hMX
                go_loopw [5] (fun i wr => ∃ k : Nat, k ≤ m ∧ i = .int .i64 k ∧ Hid (∃ q, wr = wo.drewN q) ∧ Hid (∀ j, j < k → (l.getD j ([], [])).1 < p.1)) (fun i _ => m - (intOf i).toNat)
                case atStart => exact ⟨0, Nat.zero_le _, rfl, Lib.hid ⟨0, rfl⟩, Lib.hid (fun j hj => absurd hj (Nat.not_lt_zero j))⟩
                case round =>
                  obtain ⟨k, hk, rfl, hq, hlt⟩ := hrel
                  obtain ⟨q2, rfl⟩ := hq.out
                  by_cases hgk : k < m
                  · obtain ⟨x, hxk⟩ : ∃ x, l[k]? = some x := ⟨_, List.getElem?_eq_getElem (by omega)⟩
                    obtain ⟨b', o', hA, _, y0, _⟩ := (h.below HBL2.out).at_ hxk
                    injection hA with hA
                    injection hA with e1 e2 _
                    subst e1; subst e2
                    have x0 := HCK.out.cell (i := 0) rfl
                    have hxd : (l.getD k ([], [])).1 = x.1 := by rw [List.getD_eq_getElem?_getD, hxk]; rfl
                    have hkl : (k : Int) < (l.length : Int) := by omega
                    by_cases hlx : x.1 < p.1
                    · have hls : Op.bytesLess x.1 p.1 = true := by rw [less_eq]; exact decide_eq_true hlx
                      have HLT := Lib.hid (show ∀ j, j < k + 1 → (l.getD j ([], [])).1 < p.1 from fun j hj => by
                        by_cases hjk : j < k
                        · exact hlt.out j hjk
                        · obtain rfl : j = k := by omega
                          rw [hxd]; exact hlx)
                      clear hxk hxd hlx hlt hq
                      go_wp2_with fail
                      go_quiet (fail)
                      go_wp2_with fail
                      go_roundw
                      case rel => exact ⟨k + 1, by omega, by go_num, Lib.hid ⟨_, rfl⟩, HLT⟩
                      case measure => simp [intOf]; omega
                    · have hls : Op.bytesLess x.1 p.1 = false := by rw [less_eq]; exact decide_eq_false hlx
                      have HZ := Lib.hid (HB.out m hgo (fun h => hlx (by have := h.2 k hgk; rwa [hxd, HPD.out] at this)))
                      clear hxk hxd hlx hlt hq
                      go_wp2_with fail
                      go_quiet (fail)
                      go_wp2_with fail
                      go_ret
                      exact ⟨by rw [HZ.out]; rfl, below_drewN (below_drewN HBL2.out _) _⟩
                  · obtain rfl : k = m := by omega
                    have HGD := Lib.hid (show ∀ j, j < k + 1 → goodR l j from fun j hj => by
                      by_cases hjk : j < k
                      · exact hgd.out j hjk
                      · obtain rfl : j = k := by omega
                        exact ⟨by rw [HPD.out]; exact HOK.out, fun i hi => by rw [HPD.out]; exact hlt.out i hi⟩)
                    clear hgk hk hq hlt hgd
                    go_wp2_with fail
                    go_roundw
                    case rel => exact ⟨k + 1, by omega, by go_num, below_drewN HBL2.out _, HGD⟩
                    case measure => simp [intOf]; omega
              · have hd4 : decide (40 < (p.2.length : Int)) = true := decide_eq_true (by omega)
                have HZ := Lib.hid (HB.out m hgo (fun h => hl4 ((okP_iff p).1 (by have := h.1; rwa [HPD.out] at this)).2.2))
                clear hgn hn he hl4
                go_wp2_with fail
                refine (HGN.out _).mono ?_
                rintro e w2 ⟨rfl, rfl⟩
                go_wp2_with fail
                go_ret
                exact ⟨by rw [HZ.out]; rfl, hbl2⟩
        · obtain rfl : m = l.length := by omega
          have HZ := Lib.hid (HY.out ((ok_iffR l).2 ⟨h0, by have := of_decide_eq_false h8; omega, hgd.out⟩))
          go_wp2_with fail
          go_ret
          exact ⟨by rw [HZ.out]; rfl, hbl⟩

set_option maxHeartbeats 8000000 in
set_option maxRecDepth 10000 in
theorem rkey_any (v : Value) (l : List Pr) (w : World) (h : PsAt w v l) (hl : l.length ≤ 1000) (hp : ∀ p ∈ l, p.1.length ≤ 1000000 ∧ p.2.length ≤ 1000000) :
    Calls Tryd.prog 22 #[v] w (RetBelow w (.string (bs (key l)))) := by
  obtain ⟨A, c, rfl, hlc, hcm⟩ := h.shape
  unfold maxLen at hcm
  have hu := u_len l.length (by omega)
  have HCV := Lib.hid (show IntKind.u64.wrap (l.length : Int) = (l.length : Int) by rw [IntKind.wrap_u64]; omega)
  go_enter Tryd.func22, Tryd.ntmps22
  go_wp2_with fail
  refine (refUint_any l.length _ (by omega)).mono ?_
  rintro e w1 ⟨rfl, hb1⟩
  go_wp2_with fail
  go_loopw [12, 3] (fun i s wr => ∃ (k : Nat) (ys : List UInt8), k ≤ l.length ∧ i = .int .i64 k ∧ s = .string (bs ys) ∧ Below w.heap.size w wr ∧ ys.length ≤ 10 + k * 2000020 ∧ Hid (ys = u l.length ++ (l.take k).flatMap fun p => tx p.1 ++ tx p.2)) (fun i _ _ => l.length - (intOf i).toNat)
  case atStart => exact ⟨0, _, Nat.zero_le _, rfl, rfl, hb1, by omega, Lib.hid (by simp)⟩
  case round =>
    clear hb1
    obtain ⟨k, ys, hk, rfl, rfl, hB, hyl, hy⟩ := hrel
    by_cases hgo : k < l.length
    · obtain ⟨p, hpk⟩ : ∃ p, l[k]? = some p := ⟨_, List.getElem?_eq_getElem hgo⟩
      obtain ⟨b, o, rfl, hbb, g1, g2⟩ := (h.below hB).at_ hpk
      obtain ⟨hp1, hp2⟩ := hp p (List.mem_of_getElem? hpk)
      have HPK := Lib.hid hpk
      have hck := Blk.new wr #[.string (bs p.1), .string (bs p.2)] 61
      have hB2 := below_trans hB (below_alloc1 wr (.cells #[.string (bs p.1), .string (bs p.2)] 61))
      have u1 := u_len p.1.length (by omega)
      have u2 := u_len p.2.length (by omega)
      obtain ⟨y1, hy1⟩ : ∃ y, y = tx p.1 := ⟨_, rfl⟩
      obtain ⟨y2, hy2⟩ : ∃ y, y = tx p.2 := ⟨_, rfl⟩
      have l1 : y1.length ≤ 1000010 := by rw [hy1]; unfold tx; rw [List.length_append]; omega
      have l2 : y2.length ≤ 1000010 := by rw [hy2]; unfold tx; rw [List.length_append]; omega
      have T1 := Lib.hid (fun w => (show Calls Tryd.prog 41 #[.string (bs p.1)] w (RetBelow w (.string (bs y1))) by rw [hy1]; exact refText_any (bs p.1) w (by rw [bs_size]; omega)))
      have T2 := Lib.hid (fun w => (show Calls Tryd.prog 41 #[.string (bs p.2)] w (RetBelow w (.string (bs y2))) by rw [hy2]; exact refText_any (bs p.2) w (by rw [bs_size]; omega)))
      have HY := Lib.hid (show u l.length ++ (l.take (k + 1)).flatMap (fun p => tx p.1 ++ tx p.2) = ys ++ (y1 ++ y2) by rw [hy.out, hy1, hy2, List.take_add_one, hpk]; simp)
      have hyk : ys.length ≤ 2100000000 := by
        have : k * 2000020 ≤ 1000 * 2000020 := Nat.mul_le_mul_right _ (by omega)
        omega
      have n1 : ¬ 9223372036854775807 < y1.length + y2.length := by omega
      have n2 : ¬ 9223372036854775807 < ys.length + (y1.length + y2.length) := by omega
      clear hpk hy1 hy2 u1 u2 hy hyk
      go_wp2_with fail
      go_upto_region 5 with fail
      refine wp_region_known [(2, .string (bs p.1)), (3, .string (bs y1)), (5, .string (bs p.2)), (6, .string (bs y2))] (by kernel_rfl) 27 (by kernel_rfl) rfl ?_
      repeat (first
        | (refine Chain.step (v := ?_) (a' := ?_) rfl rfl rfl ?_ ?_ ?_
           rotate_left 2
           focus (intro w; go_simp; try with_reducible rfl)
           focus (simp only [Act.put, List.setIfInBounds_toArray, List.set_cons_succ, List.set_cons_zero]; try rfl))
        | (refine Chain.call (a' := ?_) _ rfl rfl rfl (fun wx hw => ?_) ?_ ?_
           rotate_left 1
           focus
             first
             | (have z0 := (hck.below hw).cell (i := 0) rfl; have z1 := (hck.below hw).cell (i := 1) rfl; go_simp; first | exact ⟨rfl, Below.refl _ _⟩ | exact Below.refl _ _)
             | (go_simp; ((with_reducible refine (T1.out _).mono ?_); rintro e w2 ⟨rfl, h2⟩; exact ⟨rfl, h2⟩))
             | (go_simp; ((with_reducible refine (T2.out _).mono ?_); rintro e w2 ⟨rfl, h2⟩; exact ⟨rfl, h2⟩))
           focus (simp only [Act.put, List.setIfInBounds_toArray, List.set_cons_succ, List.set_cons_zero]; try rfl))
        | (refine Chain.skip (a' := ?_) rfl rfl rfl ?_ ?_
           rotate_left 1
           focus (simp only [Act.put, List.setIfInBounds_toArray, List.set_cons_succ, List.set_cons_zero]; try rfl)))
      refine Chain.end_ (fun wz hwz _ => ?_)
      have hB3 := below_trans hB2 hwz
      clear hwz n1 n2
      go_wp2_with fail
      go_roundw
      case rel => exact ⟨k + 1, ys ++ (y1 ++ y2), by omega, by go_num, rfl, hB3, by simp; omega, Lib.hid HY.out.symm⟩
      case measure => simp [intOf]; omega
    · obtain rfl : k = l.length := by omega
      have hz : ys = key l := by rw [hy.out, List.take_length]; rfl
      have HZ := Lib.hid hz
      clear hz hy
      go_wp2_with fail
      go_ret
      exact ⟨by rw [HZ.out]; rfl, hB⟩

end Go.Proofs.YtpjicajifdandaaDoor
