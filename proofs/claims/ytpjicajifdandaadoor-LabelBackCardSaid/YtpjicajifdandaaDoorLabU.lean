/-
  Layer 6: the walk of the reference's Compare.
-/
import Derived.Test.YtpjicajifdandaaDoorLabT
import Derived.Test.YtpjicajifdandaaDoorLabE
namespace Go.Proofs.YtpjicajifdandaaDoor
open Go.RowKit Go.Bar Go.Bar.Leb Go.Bar.Lab

theorem less_t {a b : List UInt8} (h : a < b) : Op.bytesLess a b = true := by rw [less_eq]; exact decide_eq_true h
theorem less_f {a b : List UInt8} (h : ¬ a < b) : Op.bytesLess a b = false := by rw [less_eq]; exact decide_eq_false h
theorem eqb_f {a b : List UInt8} (h : a ≠ b) : (a == b) = false := by rw [beq_eq_false_iff_ne]; exact h
theorem b_ne {a b : List UInt8} (h : a < b) : a ≠ b := fun he => by rw [he] at h; exact b_irrefl _ h

set_option maxHeartbeats 8000000 in
set_option maxRecDepth 10000 in
theorem rcompare_any (v v' : Value) (a b : List Pr) (w : World) (h : PsAt w v a) (h' : PsAt w v' b) :
    Calls Tryd.prog 26 #[v, v'] w (RetBelow w (.int .i64 (cmpL a b))) := by
  obtain ⟨A, c, rfl, hlc, hcm⟩ := h.shape
  obtain ⟨A', c', rfl, hlc', hcm'⟩ := h'.shape
  unfold maxLen at hcm hcm'
  obtain ⟨Z, hZ⟩ : ∃ Z, Z = cmpL a b := ⟨_, rfl⟩
  rw [← hZ]
  have HZ := Lib.hid hZ
  clear hZ
  go_enter Tryd.func26, Tryd.ntmps26
  go_wp2_with fail
  go_loopw [5] (fun i wr => ∃ k : Nat, k ≤ a.length ∧ k ≤ b.length ∧ i = .int .i64 k ∧ Below w.heap.size w wr ∧ Hid (Z = cmpL (a.drop k) (b.drop k))) (fun i _ => a.length - (intOf i).toNat)
  case atStart => exact ⟨0, Nat.zero_le _, Nat.zero_le _, rfl, Below.refl _ _, HZ⟩
  case round =>
    obtain ⟨k, hk, hkb, rfl, hbl, hz⟩ := hrel
    by_cases hgo : k < a.length
    · by_cases hgb : k < b.length
      · obtain ⟨p, hpk⟩ : ∃ p, a[k]? = some p := ⟨_, List.getElem?_eq_getElem hgo⟩
        obtain ⟨ba, oa, rfl, hba, g1, g2⟩ := (h.below hbl).at_ hpk
        obtain ⟨q, hqk⟩ : ∃ q, b[k]? = some q := ⟨_, List.getElem?_eq_getElem hgb⟩
        obtain ⟨bb, ob, rfl, hbb, f1, f2⟩ := (h'.below hbl).at_ hqk
        have hd1 : decide ((k : Int) < (a.length : Int)) = true := decide_eq_true (by omega)
        have hd2 : decide ((k : Int) < (b.length : Int)) = true := decide_eq_true (by omega)
        have HS := Lib.hid (cmpL_step hpk hqk)
        clear hpk hqk
        have hbl2 : Below w.heap.size w ((wr.alloc (.cells #[.string (bs p.1), .string (bs p.2)] 61)).alloc (.cells #[.string (bs q.1), .string (bs q.2)] 61)) := below_trans (below_trans hbl (below_alloc1 _ _)) (below_alloc1 _ _)
        by_cases hlt : p.1 < q.1
        · have hls := less_t hlt
          have HZ2 := Lib.hid (show Z = -1 by rw [hz.out, HS.out]; unfold cmpP cmpB; simp [hlt])
          clear hlt hz
          go_wp2_with fail
          go_ret
          exact ⟨by rw [HZ2.out]; rfl, hbl2⟩
        · have hls := less_f hlt
          by_cases hgt : q.1 < p.1
          · have heq : (p.1 == q.1) = false := eqb_f (fun h => b_ne hgt h.symm)
            have HZ2 := Lib.hid (show Z = 1 by rw [hz.out, HS.out]; unfold cmpP cmpB; simp [hlt, hgt])
            clear hlt hz hgt
            go_wp2_with fail
            go_ret
            exact ⟨by rw [HZ2.out]; rfl, hbl2⟩
          · have he := b_tri hlt hgt
            have heq : (p.1 == q.1) = true := by rw [beq_iff_eq]; exact he
            by_cases hlt2 : p.2 < q.2
            · have hls2 := less_t hlt2
              have HZ2 := Lib.hid (show Z = -1 by rw [hz.out, HS.out]; unfold cmpP cmpB; simp [hlt, hgt, hlt2])
              clear hlt hz hgt he hlt2
              go_wp2_with fail
              go_ret
              exact ⟨by rw [HZ2.out]; rfl, hbl2⟩
            · have hls2 := less_f hlt2
              by_cases hgt2 : q.2 < p.2
              · have heq2 : (p.2 == q.2) = false := eqb_f (fun h => b_ne hgt2 h.symm)
                have HZ2 := Lib.hid (show Z = 1 by rw [hz.out, HS.out]; unfold cmpP cmpB; simp [hlt, hgt, hlt2, hgt2])
                clear hlt hz hgt he hlt2 hgt2
                go_wp2_with fail
                go_ret
                exact ⟨by rw [HZ2.out]; rfl, hbl2⟩
              · have he2 := b_tri hlt2 hgt2
                have heq2 : (p.2 == q.2) = true := by rw [beq_iff_eq]; exact he2
                have HZ2 := Lib.hid (show Z = cmpL (a.drop (k + 1)) (b.drop (k + 1)) by rw [hz.out, HS.out]; unfold cmpP cmpB; simp [hlt, hgt, hlt2, hgt2])
                clear hlt hz hgt he hlt2 hgt2 he2
                go_wp2_with fail
                go_roundw
                case rel => exact ⟨k + 1, by omega, by omega, by go_num, hbl2, HZ2⟩
                case measure => simp [intOf]; omega
      · obtain rfl : k = b.length := by omega
        have hd1 : decide ((b.length : Int) < (a.length : Int)) = true := decide_eq_true (by omega)
        have hd2 : decide ((a.length : Int) < (b.length : Int)) = false := decide_eq_false (by omega)
        have HZ2 := Lib.hid (show Z = 1 by rw [hz.out, cmpL_right hgo (by omega)])
        clear hz
        go_wp2_with fail
        go_ret
        exact ⟨by rw [HZ2.out]; rfl, hbl⟩
    · obtain rfl : k = a.length := by omega
      have hz2 := hz.out
      rw [cmpL_end] at hz2
      by_cases hlt : a.length < b.length
      · rw [if_pos hlt] at hz2
        have HZ2 := Lib.hid hz2
        have hd : decide ((a.length : Int) < (b.length : Int)) = true := decide_eq_true (by omega)
        clear hz2 hz
        go_wp2_with fail
        go_ret
        exact ⟨by rw [HZ2.out]; rfl, hbl⟩
      · rw [if_neg hlt] at hz2
        have HZ2 := Lib.hid hz2
        have hd : decide ((a.length : Int) < (b.length : Int)) = false := decide_eq_false (by omega)
        have hd' : decide ((b.length : Int) < (a.length : Int)) = false := decide_eq_false (by omega)
        clear hz2 hz
        go_wp2_with fail
        go_ret
        exact ⟨by rw [HZ2.out]; rfl, hbl⟩

end Go.Proofs.YtpjicajifdandaaDoor
