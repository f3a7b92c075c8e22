/-
  Layer 6: the walks of the reference's functions that look at pairs (letter, name, Check, Get, Key, Text, Compare).
-/
import Derived.Test.YtpjicajifdandaaDoorLabI
import Derived.Test.YtpjicajifdandaaDoorLebR
namespace Go.Proofs.YtpjicajifdandaaDoor
open Go.RowKit Go.Bar Go.Bar.Leb Go.Bar.Lab

set_option maxHeartbeats 1000000 in
theorem rletter_any (c : UInt8) (w : World) : Calls Tryd.prog 56 #[.int .u8 c.toNat] w fun e w' => e = .returned (.bool (letter c)) ∧ w = w' := by
  rw [letter_nat]
  have hrng := byte_rng c
  rcases hrng with h1 | ⟨h1, h2⟩ | ⟨h1, h2⟩ | ⟨h1, h2⟩ | ⟨h1, h2, h3⟩ | h1 | ⟨h1, h2⟩ | h1
  case inr.inr.inr.inr.inr.inl =>
    rw [decide_eq_true (by omega)]
    have hne : ((c.toNat : Int) == 95) = true := by rw [beq_iff_eq]; exact h1
    have h2 : (c.toNat : Int) ≤ 95 := by omega
    have h3 : 95 ≤ (c.toNat : Int) := by omega
    clear h1
    go_enter Tryd.func56, Tryd.ntmps56
    go_wp2_with fail
    go_ret
    exact ⟨rfl, rfl⟩
  case inr.inr.inr.inl =>
    rw [decide_eq_true (by omega)]
    go_enter Tryd.func56, Tryd.ntmps56
    go_wp2_with fail
    go_ret
    exact ⟨rfl, rfl⟩
  case inr.inr.inr.inr.inr.inr.inl =>
    rw [decide_eq_true (by omega)]
    go_enter Tryd.func56, Tryd.ntmps56
    go_wp2_with fail
    go_ret
    exact ⟨rfl, rfl⟩
  all_goals
    rw [decide_eq_false (by omega)]
    have hne : ((c.toNat : Int) == 95) = false := by rw [beq_eq_false_iff_ne]; omega
    try (have hx3 : 65 ≤ (c.toNat : Int) := (by omega))
    try (have hx4 : decide ((c.toNat : Int) ≤ 90) = false := decide_eq_false (by omega))
    try (have hx5 : decide ((c.toNat : Int) ≤ 122) = false := decide_eq_false (by omega))
    go_enter Tryd.func56, Tryd.ntmps56
    go_wp2_with fail
    go_ret
    exact ⟨rfl, rfl⟩

theorem digit_cases {c : UInt8} : digit c = true ∧ 48 ≤ (c.toNat : Int) ∧ (c.toNat : Int) ≤ 57 ∨ digit c = false ∧ (c.toNat : Int) < 48 ∨ digit c = false ∧ 57 < (c.toNat : Int) ∧ 48 ≤ (c.toNat : Int) := by
  rw [digit_nat]
  by_cases h1 : (c.toNat : Int) < 48
  · exact .inr (.inl ⟨decide_eq_false (by omega), h1⟩)
  · by_cases h2 : 57 < (c.toNat : Int)
    · exact .inr (.inr ⟨decide_eq_false (by omega), h2, by omega⟩)
    · exact .inl ⟨decide_eq_true (by omega), by omega, by omega⟩

set_option maxHeartbeats 4000000 in
set_option maxRecDepth 10000 in
theorem rname_any (l : List UInt8) (w : World) (hl : l.length ≤ 1000000000000) :
    Calls Tryd.prog 36 #[.string (bs l)] w fun e w' => e = .returned (.bool (nameB l)) ∧ w = w' := by
  obtain ⟨Z, hZ⟩ : ∃ Z, Z = nameB l := ⟨_, rfl⟩
  rw [← hZ]
  rcases l with _ | ⟨c0, r⟩
  · have hz : Z = false := by rw [hZ]; rfl
    subst hz
    clear hZ
    go_enter Tryd.func36, Tryd.ntmps36
    go_wp2_with fail
    go_ret
    exact ⟨rfl, rfl⟩
  · obtain ⟨l, hlr⟩ : ∃ l, l = c0 :: r := ⟨_, rfl⟩
    have hc0 : l[0]? = some c0 := by rw [hlr]; rfl
    have hne : l.isEmpty = false := by rw [hlr]; rfl
    have hpos : 0 < l.length := by rw [hlr]; simp
    have hne2 : (l == []) = false := by rw [beq_eq_false_iff_ne, hlr]; simp
    rw [← hlr] at hZ hl ⊢
    clear hlr
    have hx0 := index_bs (P := Tryd.prog) Tryd.underlying9 .i64 l 0 0 c0 rfl hc0
    have hlt0 := rletter_any c0
    by_cases h40 : 40 < l.length
    · have hz : Z = false := by rw [hZ]; unfold nameB; rw [decide_eq_false (by omega : ¬ l.length ≤ 40), Bool.and_false]
      subst hz
      clear hZ hx0 hlt0 hc0
      have hd : decide (40 < (l.length : Int)) = true := decide_eq_true (by omega)
      go_enter Tryd.func36, Tryd.ntmps36
      go_wp2_with fail
      go_ret
      exact ⟨rfl, rfl⟩
    · have hd : decide (40 < (l.length : Int)) = false := decide_eq_false (by omega)
      rcases hl0 : letter c0 with _ | _
      · have hz : Z = false := by
          rw [hZ]
          exact nameB_bad hc0 (by show signB true c0 = false; unfold signB; rw [hl0]; rfl)
        subst hz
        rw [hl0] at hlt0
        have HL := Lib.hid hlt0
        have HX0 := Lib.hid hx0
        clear hZ hlt0 hc0 hl0 hx0
        have hx0 := HX0.out
        go_enter Tryd.func36, Tryd.ntmps36
        go_wp2_with fail
        refine (HL.out _).mono ?_
        rintro e w' ⟨rfl, rfl⟩
        go_wp2_with fail
        go_ret
        exact ⟨rfl, rfl⟩
      · rw [hl0] at hlt0
        have HL := Lib.hid hlt0
        have HZ := Lib.hid hZ
        have HC0 := Lib.hid hc0
        have HL0 := Lib.hid hl0
        have HNE := Lib.hid hne
        clear hZ hlt0 hc0 hl0
        go_enter Tryd.func36, Tryd.ntmps36
        go_wp2_with fail
        refine (HL.out _).mono ?_
        rintro e w' ⟨rfl, rfl⟩
        go_wp2_with fail
        clear hx0
        go_loop [3] (fun i => ∃ k : Nat, k ≤ l.length ∧ i = .int .i64 k ∧ Hid (signs l k)) (fun i => l.length - (intOf i).toNat)
        case atStart => exact ⟨0, Nat.zero_le _, rfl, Lib.hid (signs_zero l)⟩
        case round =>
          obtain ⟨k, hk, rfl, hsg⟩ := hrel
          by_cases hgo : k < l.length
          · obtain ⟨c, hc⟩ : ∃ c, l[k]? = some c := ⟨_, List.getElem?_eq_getElem hgo⟩
            have hxk := index_bs (P := Tryd.prog) Tryd.underlying9 .i64 l (k : Int) k c rfl hc
            have hlt := rletter_any c
            have hfirst : k = 0 → letter c = true := fun h => by
              subst h
              have := HC0.out
              rw [hc] at this
              injection this with this
              rw [this]
              exact HL0.out
            have hnb := fun h => nameB_bad (l := l) (k := k) hc h
            have hsc := fun h => signs_succ hsg.out hc h
            have hsgn : signB (k == 0) c = (letter c || (!(k == 0) && digit c)) := rfl
            rcases hlc : letter c with _ | _
            · have hk0 : (k == 0) = false := by rw [beq_eq_false_iff_ne]; intro h; rw [hfirst h] at hlc; cases hlc
              rw [hlc, hk0] at hsgn
              rw [hlc] at hlt
              have HT := Lib.hid hlt
              have HXK := Lib.hid hxk
              rcases digit_cases (c := c) with ⟨hd1, hd2, hd3⟩ | ⟨hd1, hd2⟩ | ⟨hd1, hd2, hd3⟩
              · have HSC := Lib.hid (hsc (by rw [hk0, hsgn, hd1]; rfl))
                clear hlt hxk hfirst hnb hsc hsgn hlc hk0 hd1 hc
                have hxk := HXK.out
                go_wp2_with fail
                refine (HT.out _).mono ?_
                rintro e w' ⟨rfl, rfl⟩
                go_wp2_with fail
                go_round
                case rel => exact ⟨k + 1, by omega, by go_num, HSC⟩
                case measure => simp [intOf]; omega
              all_goals
                have HNB := Lib.hid (hnb (by rw [hk0, hsgn, hd1]; rfl))
                clear hlt hxk hfirst hnb hsc hsgn hlc hk0 hd1 hc
                have hxk := HXK.out
                go_wp2_with fail
                refine (HT.out _).mono ?_
                rintro e w' ⟨rfl, rfl⟩
                go_wp2_with fail
                go_ret
                exact ⟨by rw [HZ.out, HNB.out]; rfl, rfl⟩
            · rw [hlc] at hlt hsgn
              have HT := Lib.hid hlt
              have HXK := Lib.hid hxk
              have HSC := Lib.hid (hsc (by rw [hsgn]; rfl))
              clear hlt hxk hfirst hnb hsc hsgn hlc hc
              have hxk := HXK.out
              go_wp2_with fail
              refine (HT.out _).mono ?_
              rintro e w' ⟨rfl, rfl⟩
              go_wp2_with fail
              go_round
              case rel => exact ⟨k + 1, by omega, by go_num, HSC⟩
              case measure => simp [intOf]; omega
          · obtain rfl : k = l.length := by omega
            have hz := HZ.out
            rw [nameB_signs hsg.out, HNE.out, decide_eq_true (by omega)] at hz
            have HZ2 := Lib.hid hz
            clear hz hgo
            go_wp2_with fail
            go_ret
            exact ⟨by rw [HZ2.out]; rfl, rfl⟩

end Go.Proofs.YtpjicajifdandaaDoor
