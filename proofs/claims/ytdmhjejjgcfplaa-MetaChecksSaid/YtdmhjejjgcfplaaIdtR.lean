/-
  Layer 8: the walks of the reference's functions.
-/
import Derived.Test.YtdmhjejjgcfplaaIdtA
import Derived.BigQuiet
namespace Go.Proofs.Ytdmhjejjgcfplaa
open Go.RowKit Go.Bar Go.Bar.Idt

theorem signs_take (k : Nat) (hk : k < 32) : (bs signs).extract k (k + 1) = bs [sgn k] := by
  rw [bs_extract]
  congr 1
  have : ∀ k : Fin 32, (signs.drop k.val).take (k.val + 1 - k.val) = [sgn k.val] := by decide +kernel
  exact this ⟨k, hk⟩

set_option maxHeartbeats 1000000 in
set_option maxRecDepth 10000 in
theorem sign_any (k : Nat) (hk : k < 32) (w : World) :
    Calls Try.prog 58 #[.int .i64 k] w fun e w' => e = .returned (.string (bs [sgn k])) ∧ w = w' := by
  have HT := Lib.hid (signs_take k hk)
  have h0 : (0 : Int) ≤ k := by omega
  go_enter Try.func58, Try.ntmps58
  go_wp2_with fail
  go_ret
  exact ⟨by rw [← HT.out]; rfl, rfl⟩

/-- what number returns -/
def refNumV (o : Option Nat) : Value := match o with
  | some n => .int .i64 n
  | none => .int .i64 (-1)
set_option maxHeartbeats 1000000 in
set_option maxRecDepth 10000 in
theorem refNumber_any (l : List UInt8) (w : World) (hl : l.length ≤ 8) :
    Calls Try.prog 54 #[.string (bs l)] w (Quiet w (refNumV (num 0 l))) := by
  go_enter Try.func54, Try.ntmps54
  go_wp2_with fail
  go_loopw [3, 4] (fun a i wr => ∃ k m : Nat, k ≤ l.length ∧ i = .int .i64 k ∧ a = .int .i64 m ∧ Hid (∃ n, wr = w.drewN n) ∧ m < 32 ^ k ∧ Hid (num m (l.drop k) = num 0 l)) (fun _ i _ => l.length - (intOf i).toNat)
  case atStart => exact ⟨0, 0, Nat.zero_le _, rfl, rfl, ⟨0, rfl⟩, by simp, rfl⟩
  case round =>
    obtain ⟨k, m, hk, rfl, rfl, hw, hm, hnum⟩ := hrel
    by_cases hgo : k < l.length
    · have hm35 : m < 34359738368 := Nat.lt_of_lt_of_le hm (Nat.pow_le_pow_right (by omega) (show k ≤ 7 by omega))
      obtain ⟨c, hc⟩ : ∃ c, l[k]? = some c := ⟨_, List.getElem?_eq_getElem hgo⟩
      have hd : l.drop k = c :: l.drop (k + 1) := by
        obtain ⟨h1, h2⟩ := List.getElem?_eq_some_iff.1 hc
        rw [← h2]; exact List.drop_eq_getElem_cons h1
      have hx : (bs l).extract k (k + 1) = bs [c] := by
        rw [bs_extract, hd]
        congr 1
        simp
      have hci : (0 : Int) ≤ (k : Int) := by omega
      have HX := Lib.hid hx
      have hix : -1 ≤ ix c ∧ ix c < 32 := by rcases ix_of c with ⟨h1, _⟩ | ⟨j, h1, h2, _⟩ <;> omega
      have HI := Lib.hid hix
      have HD := Lib.hid hd
      clear hx hd hc hix
      go_wp2_with fail
      go_loopw [5, 6] (fun d j wr => ∃ q : Nat, q ≤ 32 ∧ j = .int .i64 q ∧ Hid (∃ n, wr = w.drewN n) ∧ ∃ y : Int, d = .int .i64 y ∧ Hid (y = if ix c < q then ix c else -1)) (fun _ j _ => 32 - (intOf j).toNat)
      case atStart => exact ⟨0, by omega, rfl, hw, -1, rfl, Lib.hid (by have := HI.out; split <;> omega)⟩
      case round =>
        obtain ⟨q, hq, rfl, hw2, y, rfl, hy⟩ := hrel
        by_cases hq2 : q < 32
        · have hs : ∀ w, Calls Try.prog 58 #[.int .i64 q] w fun e w' => e = .returned (.string (bs [sgn q])) ∧ ∃ n, w' = w.drewN n := fun w => (sign_any q hq2 w).mono (fun e w' ⟨h1, h2⟩ => ⟨h1, 0, h2.symm⟩)
          have HS := Lib.hid hs
          clear hs
          go_wp2_with fail
          go_quiet (first | (go_at_call 58; refine Calls.quiet_of (HS.out _)))
          all_goals go_wp2_with fail
          all_goals
            rename_i hb
            rw [HX.out, bs_toList] at hb
            have hwn : Hid (∃ n, wr.drewN nq = w.drewN n) := by
              obtain ⟨n, rfl⟩ := hw2.out
              exact Lib.hid ⟨n + nq, by rw [World.drewN_drewN]⟩
          · have hix : ix c = q := by
              simp at hb
              rw [← hb, ix_sgn q hq2]
            exact ⟨⟨q + 1, by omega, by go_num, hwn, _, rfl, Lib.hid (by rw [if_pos (by omega), hix])⟩, by simp [intOf]; omega⟩
          · have hix : ix c ≠ q := by
              rcases ix_of c with ⟨h1, _⟩ | ⟨j, h1, h2, h3⟩
              · omega
              · intro h
                have : j = q := by omega
                subst this
                rw [h3] at hb
                simp at hb
            have hy2 : y = if ix c < ((q + 1 : Nat) : Int) then ix c else -1 := by
              rw [hy.out]
              by_cases h1 : ix c < (q : Int)
              · rw [if_pos h1, if_pos (by omega)]
              · rw [if_neg h1, if_neg (by omega)]
            exact ⟨⟨q + 1, by omega, by go_num, hwn, _, rfl, Lib.hid hy2⟩, by simp [intOf]; omega⟩
        · obtain rfl : q = 32 := by omega
          obtain rfl : y = ix c := by rw [hy.out]; have := HI.out; split <;> omega
          rcases ix_of c with ⟨h1, h2⟩ | ⟨j, h1, h2, h3⟩
          · have hres : num 0 l = none := by
              rw [← hnum.out, HD.out, num, h1, if_pos (by omega)]
            have HR := Lib.hid hres
            rw [h1]
            clear h1 h2 hres hnum
            go_wp2_with fail
            go_ret
            exact ⟨by rw [HR.out]; rfl, hw2.out⟩
          · have hres : num (32 * m + j) (l.drop (k + 1)) = num 0 l := by
              rw [← hnum.out, HD.out, num, h1, if_neg (by omega), Int.toNat_natCast]
            have HR := Lib.hid hres
            rw [h1]
            clear h1 h3 hres hnum
            go_wp2_with fail
            go_roundw
            case rel => exact ⟨k + 1, 32 * m + j, by omega, by go_num, by go_num, hw2, by rw [Nat.pow_succ]; omega, HR.out⟩
            case measure => simp [intOf]; omega
    · have hres : num 0 l = some m := by rw [← hnum.out, List.drop_of_length_le (by omega)]; rfl
      have HR := Lib.hid hres
      clear hres hnum
      go_wp2_with fail
      go_ret
      exact ⟨by rw [HR.out]; rfl, hw⟩

/-- what the reference's Parse returns -/
def refParseV : Option (Nat × Nat) → Value
  | some (t, s) => .tuple #[.int .i64 (t : Int), .int .i64 (s : Int), .bool true]
  | none => .tuple #[.int .i64 0, .int .i64 0, .bool false]

set_option maxHeartbeats 1000000 in
set_option maxRecDepth 10000 in
theorem refParse_any (l : List UInt8) (w : World) (_hl : l.length ≤ 1000000000000) :
    Calls Try.prog 46 #[.string (bs l)] w (Quiet w (refParseV (parse l))) := by
  unfold parse
  by_cases h16 : l.length ≠ 16
  · rw [if_pos h16]
    have hb : ((l.length : Int) != 16) = true := by rw [bne_iff_ne]; omega
    clear h16
    go_enter Try.func46, Try.ntmps46
    go_wp2_with fail
    go_ret3
    exact ⟨rfl, 0, rfl⟩
  · rw [if_neg h16]
    have h16 : l.length = 16 := by omega
    have hb : ((l.length : Int) != 16) = false := by rw [bne_eq_false_iff_eq]; omega
    have hs1 : ∀ w, (Instr.slice 9 (.string (bs l)) none (some (.int .i64 8)) none).run Try.prog w = .ok (.string (bs (l.take 8))) w := slice_to (P := Try.prog) Try.underlying9 l 8 (by omega)
    have hs2 : ∀ w, (Instr.slice 9 (.string (bs l)) (some (.int .i64 8)) none none).run Try.prog w = .ok (.string (bs (l.drop 8))) w := slice_from (P := Try.prog) Try.underlying9 l 8 (by omega)
    have hn1 := refNumber_any (l.take 8)
    have hn2 := refNumber_any (l.drop 8)
    have hl1 : (l.take 8).length ≤ 8 := List.length_take_le _ _
    have hl2 : (l.drop 8).length ≤ 8 := by rw [List.length_drop]; omega
    obtain ⟨x, hx⟩ : ∃ x, num 0 (l.take 8) = x := ⟨_, rfl⟩
    obtain ⟨y, hy⟩ : ∃ y, num 0 (l.drop 8) = y := ⟨_, rfl⟩
    rw [hx] at hn1 ⊢
    rw [hy] at hn2 ⊢
    have H1 := Lib.hid hn1
    have H2 := Lib.hid hn2
    clear hn1 hn2 hx hy h16
    rcases x with _ | x <;> rcases y with _ | y
    all_goals
      simp only [refNumV] at H1 H2
      go_enter Try.func46, Try.ntmps46
      go_wp2_with fail
      refine (H1.out _ hl1).mono ?_
      rintro e w' ⟨rfl, n1, rfl⟩
      go_wp2_with fail
      refine (H2.out _ hl2).mono ?_
      rintro e w' ⟨rfl, n2, rfl⟩
      go_wp2_with fail
      go_ret3
      exact ⟨rfl, _, rfl⟩

end Go.Proofs.Ytdmhjejjgcfplaa
