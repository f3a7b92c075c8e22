/-
  Layer 6: the walks of label's Compare and String.
-/
import Derived.Test.YtpjicajifdandaaDoorLabD
namespace Go.Proofs.YtpjicajifdandaaDoor
open Go.RowKit Go.Bar Go.Bar.Leb Go.Bar.Lab

set_option maxHeartbeats 1000000 in
theorem byBoth_any (p q : Pr) (w : World) : Calls Tryd.prog 46 #[.agg #[.string (bs p.1), .string (bs p.2)], .agg #[.string (bs q.1), .string (bs q.2)]] w
    (RetBelow w (.int .i64 (cmpP p q))) := by
  have hcon := compare_any p.1 q.1
  have hcon2 := compare_any p.2 q.2
  have hbl : Below w.heap.size w ((w.alloc (.cells #[.string (bs p.1), .string (bs p.2)] 57)).alloc (.cells #[.string (bs q.1), .string (bs q.2)] 57)) := below_trans (below_alloc1 _ _) (below_alloc1 _ _)
  unfold cmpP
  by_cases h0 : cmpB p.1 q.1 = 0
  · rw [if_neg (by omega)]
    rw [h0] at hcon
    have HC := Lib.hid hcon
    have HC2 := Lib.hid hcon2
    clear hcon hcon2 h0
    go_enter Tryd.func46, Tryd.ntmps46
    go_wp2_with fail
    refine (HC.out _).mono ?_
    rintro e w' ⟨rfl, rfl⟩
    go_wp2_with fail
    refine (HC2.out _).mono ?_
    rintro e w' ⟨rfl, rfl⟩
    go_wp2_with fail
    go_ret
    exact ⟨rfl, hbl⟩
  · rw [if_pos h0]
    have hb : (cmpB p.1 q.1 != 0) = true := by rw [bne_iff_ne]; exact h0
    obtain ⟨z, hz⟩ : ∃ z, cmpB p.1 q.1 = z := ⟨_, rfl⟩
    rw [hz] at hcon hb ⊢
    have HC := Lib.hid hcon
    clear hcon hcon2 h0 hz
    go_enter Tryd.func46, Tryd.ntmps46
    go_wp2_with fail
    refine (HC.out _).mono ?_
    rintro e w' ⟨rfl, rfl⟩
    go_wp2_with fail
    go_ret
    exact ⟨rfl, hbl⟩

theorem cmpL_step {a b : List Pr} {k : Nat} {p q : Pr} (ha : a[k]? = some p) (hb : b[k]? = some q) : cmpL (a.drop k) (b.drop k) = if cmpP p q ≠ 0 then cmpP p q else cmpL (a.drop (k + 1)) (b.drop (k + 1)) := by
  obtain ⟨h1, rfl⟩ := List.getElem?_eq_some_iff.1 ha
  obtain ⟨h2, rfl⟩ := List.getElem?_eq_some_iff.1 hb
  rw [List.drop_eq_getElem_cons h1, List.drop_eq_getElem_cons h2]
  rfl
theorem cmpL_right {a b : List Pr} {k : Nat} (ha : k < a.length) (hb : b.length ≤ k) : cmpL (a.drop k) (b.drop k) = 1 := by
  rw [List.drop_eq_getElem_cons ha, List.drop_of_length_le hb]
  rfl
theorem cmpL_end {a b : List Pr} : cmpL (a.drop a.length) (b.drop a.length) = if a.length < b.length then -1 else 0 := by
  rw [List.drop_length]
  split
  · rename_i h
    rw [List.drop_eq_getElem_cons h]
    rfl
  · rename_i h
    rw [List.drop_of_length_le (by omega)]
    rfl

set_option maxHeartbeats 4000000 in
set_option maxRecDepth 10000 in
theorem compareFunc_any (v v' : Value) (a b : List Pr) (w : World) (h : PsAt w v a) (h' : PsAt w v' b) :
    Calls Tryd.prog 45 #[v, v', .func (.func 46) #[] #[]] w (RetBelow w (.int .i64 (cmpL a b))) := by
  obtain ⟨A, c, rfl, hlc, hcm⟩ := h.shape
  obtain ⟨A', c', rfl, hlc', hcm'⟩ := h'.shape
  unfold maxLen at hcm hcm'
  obtain ⟨Z, hZ⟩ : ∃ Z, Z = cmpL a b := ⟨_, rfl⟩
  rw [← hZ]
  have HZ := Lib.hid hZ
  clear hZ
  go_enter Tryd.func45, Tryd.ntmps45
  go_wp2_with fail
  go_loopw [13] (fun i wr => ∃ k : Nat, k ≤ a.length ∧ i = .int .i64 k ∧ Below w.heap.size w wr ∧ Hid (Z = cmpL (a.drop k) (b.drop k))) (fun i _ => a.length - (intOf i).toNat)
  case atStart => exact ⟨0, Nat.zero_le _, rfl, Below.refl _ _, HZ⟩
  case round =>
    obtain ⟨k, hk, rfl, hbl, hz⟩ := hrel
    by_cases hgo : k < a.length
    · obtain ⟨p, hpk⟩ : ∃ p, a[k]? = some p := ⟨_, List.getElem?_eq_getElem hgo⟩
      obtain ⟨ba, oa, rfl, hba, g1, g2⟩ := (h.below hbl).at_ hpk
      by_cases hgb : k < b.length
      · obtain ⟨q, hqk⟩ : ∃ q, b[k]? = some q := ⟨_, List.getElem?_eq_getElem hgb⟩
        obtain ⟨bb, ob, rfl, hbb, f1, f2⟩ := (h'.below hbl).at_ hqk
        have hd : decide ((b.length : Int) ≤ (k : Int)) = false := decide_eq_false (by omega)
        have HS := Lib.hid (cmpL_step hpk hqk)
        have hc := byBoth_any p q
        clear hpk hqk
        have hbl2 : Below w.heap.size w ((wr.alloc (.cells #[.string (bs p.1), .string (bs p.2)] 57)).alloc (.cells #[.string (bs q.1), .string (bs q.2)] 57)) := below_trans (below_trans hbl (below_alloc1 _ _)) (below_alloc1 _ _)
        by_cases h0 : cmpP p q = 0
        · have hz2 : Z = cmpL (a.drop (k + 1)) (b.drop (k + 1)) := by rw [hz.out, HS.out, if_neg (by omega)]
          rw [h0] at hc
          have HC := Lib.hid hc
          have HZ2 := Lib.hid hz2
          clear hc hz2 h0 hz
          go_wp2_with fail
          refine (HC.out _).mono ?_
          rintro e w2 ⟨rfl, h2⟩
          have hbl3 := below_trans hbl2 h2
          clear h2
          go_wp2_with fail
          go_roundw
          case rel => exact ⟨k + 1, by omega, by go_num, hbl3, HZ2⟩
          case measure => simp [intOf]; omega
        · have hz2 : Z = cmpP p q := by rw [hz.out, HS.out, if_pos h0]
          have hb : (cmpP p q != 0) = true := by rw [bne_iff_ne]; exact h0
          rw [← hz2] at hc hb
          have HC := Lib.hid hc
          clear hc hz2 h0 hz
          go_wp2_with fail
          refine (HC.out _).mono ?_
          rintro e w2 ⟨rfl, h2⟩
          have hbl3 := below_trans hbl2 h2
          clear h2
          go_wp2_with fail
          go_ret
          exact ⟨rfl, hbl3⟩
      · have HZ2 := Lib.hid (show Z = 1 by rw [hz.out, cmpL_right hgo (by omega)])
        have hd : decide ((b.length : Int) ≤ (k : Int)) = true := decide_eq_true (by omega)
        clear hpk hz
        go_wp2_with fail
        go_ret
        exact ⟨by rw [HZ2.out]; rfl, below_trans hbl (below_alloc1 _ _)⟩
    · obtain rfl : k = a.length := by omega
      have hz2 := hz.out
      rw [cmpL_end] at hz2
      by_cases hlt : a.length < b.length
      · rw [if_pos hlt] at hz2
        have HZ2 := Lib.hid hz2
        clear hz2 hz
        go_wp2_with fail
        go_ret
        exact ⟨by rw [HZ2.out]; rfl, hbl⟩
      · rw [if_neg hlt] at hz2
        have HZ2 := Lib.hid hz2
        have hd : decide ((a.length : Int) < (b.length : Int)) = false := decide_eq_false (by omega)
        clear hz2 hz
        go_wp2_with fail
        go_ret
        exact ⟨by rw [HZ2.out]; rfl, hbl⟩

set_option maxHeartbeats 1000000 in
theorem lcompare_any (v v' : Value) (a b : List Pr) (w : World) (h : PsAt w v a) (h' : PsAt w v' b) :
    Calls Tryd.prog 25 #[v, v'] w (RetBelow w (.int .i64 (cmpL a b))) := by
  have hc := compareFunc_any v v' a b w h h'
  obtain ⟨Z, hZ⟩ : ∃ Z, cmpL a b = Z := ⟨_, rfl⟩
  rw [hZ] at hc ⊢
  have HC := Lib.hid hc
  clear hc hZ h h'
  go_enter Tryd.func25, Tryd.ntmps25
  go_wp2_with fail
  refine HC.out.mono ?_
  rintro e w2 ⟨rfl, h2⟩
  go_wp2_with fail
  go_ret
  exact ⟨rfl, h2⟩

end Go.Proofs.YtpjicajifdandaaDoor
