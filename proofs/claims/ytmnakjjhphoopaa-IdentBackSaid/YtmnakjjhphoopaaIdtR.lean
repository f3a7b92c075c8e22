/-
  Layer 8: the walks of the reference's functions.
-/
import Derived.Test.YtmnakjjhphoopaaIdtA
import Derived.BigQuiet
namespace Go.Proofs.Ytmnakjjhphoopaa
open Go.RowKit Go.Bar Go.Bar.Idt

theorem signs_take (k : Nat) (hk : k < 32) : (bs signs).extract k (k + 1) = bs [sgn k] := by
  rw [bs_extract]
  congr 1
  have : ∀ k : Fin 32, (signs.drop k.val).take (k.val + 1 - k.val) = [sgn k.val] := by decide +kernel
  exact this ⟨k, hk⟩

set_option maxHeartbeats 1000000 in
set_option maxRecDepth 10000 in
theorem sign_any (k : Nat) (hk : k < 32) (w : World) :
    Calls Try.prog 87 #[.int .i64 k] w fun e w' => e = .returned (.string (bs [sgn k])) ∧ w = w' := by
  have HT := Lib.hid (signs_take k hk)
  have h0 : (0 : Int) ≤ k := by omega
  go_enter Try.func87, Try.ntmps87
  go_wp2_with fail
  go_ret
  exact ⟨by rw [← HT.out]; rfl, rfl⟩

set_option maxHeartbeats 1000000 in
set_option maxRecDepth 10000 in
theorem refDigits_any (t : Nat) (w : World) (ht : t < 9223372036854775808) :
    Calls Try.prog 70 #[.int .i64 t] w fun e w' => e = .returned (.string (bs (dg 8 t))) ∧ w = w' := by
  go_enter Try.func70, Try.ntmps70
  go_wp2_with fail
  go_loop [0, 3, 4] (fun n s i => ∃ (k m : Nat) (xs : List UInt8), k ≤ 8 ∧ i = .int .i64 k ∧ n = .int .i64 m ∧ s = .string (bs xs) ∧ m < 9223372036854775808 ∧ xs.length = k ∧ Hid (m = t / 32 ^ k) ∧ Hid (xs = dg k t)) (fun _ _ i => 8 - (intOf i).toNat)
  case atStart => exact ⟨0, t, [], by omega, rfl, rfl, rfl, ht, rfl, Lib.hid (by simp), rfl⟩
  case round =>
    obtain ⟨k, m, xs, hk, rfl, rfl, rfl, hm, hxl, hmt, hxs⟩ := hrel
    by_cases hgo : k < 8
    · have hs := sign_any (m % 32) (by omega)
      rw [show ((m % 32 : Nat) : Int) = (m : Int) % 32 by omega] at hs
      have HS := Lib.hid hs
      have hres : sgn (m % 32) :: xs = dg (k + 1) t := by rw [dg_cons, hmt.out, hxs.out]
      have hdiv : m / 32 = t / 32 ^ (k + 1) := by rw [hmt.out, Nat.div_div_eq_div_mul, Nat.pow_succ]
      have HR := Lib.hid hres
      have HD := Lib.hid hdiv
      have hnl : ¬ 9223372036854775807 < [sgn (m % 32)].length + xs.length := by simp; omega
      clear hs hres hdiv hmt hxs
      go_wp2_with fail
      refine (HS.out _).mono ?_
      rintro e w' ⟨rfl, rfl⟩
      go_wp2_with fail
      go_round
      case rel => exact ⟨k + 1, m / 32, sgn (m % 32) :: xs, by omega, by go_num, by go_num, rfl, by omega, by simp [hxl], HD.out, HR.out⟩
      case measure => simp [intOf]; omega
    · obtain rfl : k = 8 := by omega
      go_wp2_with fail
      go_ret
      exact ⟨by rw [← hxs.out]; rfl, rfl⟩

/-- what number returns -/
def refNumV (o : Option Nat) : Value := match o with
  | some n => .int .i64 n
  | none => .int .i64 (-1)
set_option maxHeartbeats 1000000 in
set_option maxRecDepth 10000 in
theorem refNumber_any (l : List UInt8) (w : World) (hl : l.length ≤ 8) :
    Calls Try.prog 72 #[.string (bs l)] w (Quiet w (refNumV (num 0 l))) := by
  go_enter Try.func72, Try.ntmps72
  go_wp2_with fail
  go_loopw [3, 4] (fun a i wr => ∃ k m : Nat, k ≤ l.length ∧ i = .int .i64 k ∧ a = .int .i64 m ∧ Hid (∃ n, wr = w.drewN n) ∧ m < 32 ^ k ∧ Hid (num m (l.drop k) = num 0 l)) (fun _ i _ => l.length - (intOf i).toNat)
  case atStart => exact ⟨0, 0, Nat.zero_le _, rfl, rfl, ⟨0, rfl⟩, by simp, rfl⟩
  case round =>
    obtain ⟨k, m, hk, rfl, rfl, hw, hm, hnum⟩ := hrel
    by_cases hgo : k < l.length
    · have hm35 : m < 34359738368 := Nat.lt_of_lt_of_le hm (Nat.pow_le_pow_right (by omega) (show k ≤ 7 by omega))
      obtain ⟨c, hc⟩ : ∃ c, l[k]? = some c := ⟨_, List.getElem?_eq_getElem hgo⟩
      have hd : l.drop k = c :: l.drop (k + 1) := by
        obtain ⟨h1, h2⟩ := List.getElem?_eq_some_iff.1 hc
        rw [← h2]; exact List.drop_eq_getElem_cons h1
      have hx : (bs l).extract k (k + 1) = bs [c] := by
        rw [bs_extract, hd]
        congr 1
        simp
      have hci : (0 : Int) ≤ (k : Int) := by omega
      have HX := Lib.hid hx
      have hix : -1 ≤ ix c ∧ ix c < 32 := by rcases ix_of c with ⟨h1, _⟩ | ⟨j, h1, h2, _⟩ <;> omega
      have HI := Lib.hid hix
      have HD := Lib.hid hd
      clear hx hd hc hix
      go_wp2_with fail
      go_loopw [5, 6] (fun d j wr => ∃ q : Nat, q ≤ 32 ∧ j = .int .i64 q ∧ Hid (∃ n, wr = w.drewN n) ∧ ∃ y : Int, d = .int .i64 y ∧ Hid (y = if ix c < q then ix c else -1)) (fun _ j _ => 32 - (intOf j).toNat)
      case atStart => exact ⟨0, by omega, rfl, hw, -1, rfl, Lib.hid (by have := HI.out; split <;> omega)⟩
      case round =>
        obtain ⟨q, hq, rfl, hw2, y, rfl, hy⟩ := hrel
        by_cases hq2 : q < 32
        · have hs : ∀ w, Calls Try.prog 87 #[.int .i64 q] w fun e w' => e = .returned (.string (bs [sgn q])) ∧ ∃ n, w' = w.drewN n := fun w => (sign_any q hq2 w).mono (fun e w' ⟨h1, h2⟩ => ⟨h1, 0, h2.symm⟩)
          have HS := Lib.hid hs
          clear hs
          go_wp2_with fail
          go_quiet (first | (go_at_call 87; refine Calls.quiet_of (HS.out _)))
          all_goals go_wp2_with fail
          all_goals
            rename_i hb
            rw [HX.out, bs_toList] at hb
            have hwn : Hid (∃ n, wr.drewN nq = w.drewN n) := by
              obtain ⟨n, rfl⟩ := hw2.out
              exact Lib.hid ⟨n + nq, by rw [World.drewN_drewN]⟩
          · have hix : ix c = q := by
              simp at hb
              rw [← hb, ix_sgn q hq2]
            exact ⟨⟨q + 1, by omega, by go_num, hwn, _, rfl, Lib.hid (by rw [if_pos (by omega), hix])⟩, by simp [intOf]; omega⟩
          · have hix : ix c ≠ q := by
              rcases ix_of c with ⟨h1, _⟩ | ⟨j, h1, h2, h3⟩
              · omega
              · intro h
                have : j = q := by omega
                subst this
                rw [h3] at hb
                simp at hb
            have hy2 : y = if ix c < ((q + 1 : Nat) : Int) then ix c else -1 := by
              rw [hy.out]
              by_cases h1 : ix c < (q : Int)
              · rw [if_pos h1, if_pos (by omega)]
              · rw [if_neg h1, if_neg (by omega)]
            exact ⟨⟨q + 1, by omega, by go_num, hwn, _, rfl, Lib.hid hy2⟩, by simp [intOf]; omega⟩
        · obtain rfl : q = 32 := by omega
          obtain rfl : y = ix c := by rw [hy.out]; have := HI.out; split <;> omega
          rcases ix_of c with ⟨h1, h2⟩ | ⟨j, h1, h2, h3⟩
          · have hres : num 0 l = none := by
              rw [← hnum.out, HD.out, num, h1, if_pos (by omega)]
            have HR := Lib.hid hres
            rw [h1]
            clear h1 h2 hres hnum
            go_wp2_with fail
            go_ret
            exact ⟨by rw [HR.out]; rfl, hw2.out⟩
          · have hres : num (32 * m + j) (l.drop (k + 1)) = num 0 l := by
              rw [← hnum.out, HD.out, num, h1, if_neg (by omega), Int.toNat_natCast]
            have HR := Lib.hid hres
            rw [h1]
            clear h1 h3 hres hnum
            go_wp2_with fail
            go_roundw
            case rel => exact ⟨k + 1, 32 * m + j, by omega, by go_num, by go_num, hw2, by rw [Nat.pow_succ]; omega, HR.out⟩
            case measure => simp [intOf]; omega
    · have hres : num 0 l = some m := by rw [← hnum.out, List.drop_of_length_le (by omega)]; rfl
      have HR := Lib.hid hres
      clear hres hnum
      go_wp2_with fail
      go_ret
      exact ⟨by rw [HR.out]; rfl, hw⟩

theorem refDigits_int (t : Int) (w : World) (h1 : 0 ≤ t) (h2 : t < 1099511627776) :
    Calls Try.prog 70 #[.int .i64 t] w fun e w' => e = .returned (.string (bs (dg 8 t.toNat))) ∧ w = w' := by
  obtain ⟨n, rfl⟩ := Int.eq_ofNat_of_zero_le h1
  exact refDigits_any n w (by omega)

set_option maxHeartbeats 1000000 in
set_option maxRecDepth 10000 in
theorem refMake_ok (t s : Int) (w : World) (ht : okT t) (hs : okT s) :
    Calls Try.prog 33 #[.int .i64 t, .int .i64 s] w fun e w' => e = .returned (.tuple #[.string (bs (mk t.toNat s.toNat)), .bool true]) ∧ w = w' := by
  obtain ⟨ht1, ht2⟩ := ht
  obtain ⟨hs1, hs2⟩ := hs
  obtain ⟨x, hx⟩ : ∃ x, dg 8 t.toNat = x := ⟨_, rfl⟩
  obtain ⟨y, hy⟩ : ∃ y, dg 8 s.toNat = y := ⟨_, rfl⟩
  have hl : x.length ≤ 8 ∧ y.length ≤ 8 := by rw [← hx, ← hy, dg_length, dg_length]; omega
  obtain ⟨hl1, hl2⟩ := hl
  have hnl : ¬ 9223372036854775807 < x.length + y.length := by omega
  have H1 := refDigits_int t
  have H2 := refDigits_int s
  rw [hx] at H1
  rw [hy] at H2
  have HM : mk t.toNat s.toNat = x ++ y := by rw [mk, hx, hy]
  rw [HM]
  have G1 := Lib.hid H1
  have G2 := Lib.hid H2
  clear H1 H2 HM hx hy
  go_enter Try.func33, Try.ntmps33
  go_wp2_with fail
  refine (G1.out _ ht1 ht2).mono ?_
  rintro e w1 ⟨rfl, rfl⟩
  go_wp2_with fail
  refine (G2.out _ hs1 hs2).mono ?_
  rintro e w2 ⟨rfl, rfl⟩
  go_wp2_with fail
  go_ret2
  exact ⟨rfl, rfl⟩

set_option maxHeartbeats 1000000 in
set_option maxRecDepth 10000 in
theorem refMake_bad (t s : Int) (w : World) (h : ¬ (okT t ∧ okT s)) :
    Calls Try.prog 33 #[.int .i64 t, .int .i64 s] w fun e w' => e = .returned (.tuple #[.string (bs []), .bool false]) ∧ w = w' := by
  unfold okT at h
  have hc : t < 0 ∨ (0 ≤ t ∧ s < 0) ∨ (0 ≤ t ∧ 0 ≤ s ∧ 1099511627775 < t) ∨ (0 ≤ t ∧ 0 ≤ s ∧ ¬ 1099511627775 < t ∧ 1099511627775 < s) := by omega
  clear h
  rcases hc with h1 | ⟨h1, h2⟩ | ⟨h1, h2, h3⟩ | ⟨h1, h2, h3, h4⟩
  all_goals
    go_enter Try.func33, Try.ntmps33
    go_wp2_with fail
    go_ret2
    exact ⟨rfl, rfl⟩

/-- what the reference's Parse returns -/
def refParseV : Option (Nat × Nat) → Value
  | some (t, s) => .tuple #[.int .i64 (t : Int), .int .i64 (s : Int), .bool true]
  | none => .tuple #[.int .i64 0, .int .i64 0, .bool false]

set_option maxHeartbeats 1000000 in
set_option maxRecDepth 10000 in
theorem refParse_any (l : List UInt8) (w : World) (_hl : l.length ≤ 1000000000000) :
    Calls Try.prog 35 #[.string (bs l)] w (Quiet w (refParseV (parse l))) := by
  unfold parse
  by_cases h16 : l.length ≠ 16
  · rw [if_pos h16]
    have hb : ((l.length : Int) != 16) = true := by rw [bne_iff_ne]; omega
    clear h16
    go_enter Try.func35, Try.ntmps35
    go_wp2_with fail
    go_ret3
    exact ⟨rfl, 0, rfl⟩
  · rw [if_neg h16]
    have h16 : l.length = 16 := by omega
    have hb : ((l.length : Int) != 16) = false := by rw [bne_eq_false_iff_eq]; omega
    have hs1 : ∀ w, (Instr.slice 9 (.string (bs l)) none (some (.int .i64 8)) none).run Try.prog w = .ok (.string (bs (l.take 8))) w := slice_to (P := Try.prog) Try.underlying9 l 8 (by omega)
    have hs2 : ∀ w, (Instr.slice 9 (.string (bs l)) (some (.int .i64 8)) none none).run Try.prog w = .ok (.string (bs (l.drop 8))) w := slice_from (P := Try.prog) Try.underlying9 l 8 (by omega)
    have hn1 := refNumber_any (l.take 8)
    have hn2 := refNumber_any (l.drop 8)
    have hl1 : (l.take 8).length ≤ 8 := List.length_take_le _ _
    have hl2 : (l.drop 8).length ≤ 8 := by rw [List.length_drop]; omega
    obtain ⟨x, hx⟩ : ∃ x, num 0 (l.take 8) = x := ⟨_, rfl⟩
    obtain ⟨y, hy⟩ : ∃ y, num 0 (l.drop 8) = y := ⟨_, rfl⟩
    rw [hx] at hn1 ⊢
    rw [hy] at hn2 ⊢
    have H1 := Lib.hid hn1
    have H2 := Lib.hid hn2
    clear hn1 hn2 hx hy h16
    rcases x with _ | x <;> rcases y with _ | y
    all_goals
      simp only [refNumV] at H1 H2
      go_enter Try.func35, Try.ntmps35
      go_wp2_with fail
      refine (H1.out _ hl1).mono ?_
      rintro e w' ⟨rfl, n1, rfl⟩
      go_wp2_with fail
      refine (H2.out _ hl2).mono ?_
      rintro e w' ⟨rfl, n2, rfl⟩
      go_wp2_with fail
      go_ret3
      exact ⟨rfl, _, rfl⟩

set_option maxHeartbeats 2000000 in
set_option maxRecDepth 10000 in
theorem refSplit_any (l : List UInt8) (w : World) (hl : l.length ≤ 1000000000000) :
    Calls Try.prog 37 #[.string (bs l)] w (Quiet w (splitV (split l))) := by
  unfold split
  by_cases h17 : 17 ≤ l.length
  case neg =>
    rw [if_neg (fun h => h17 h.1)]
    go_enter Try.func37, Try.ntmps37
    go_wp2_with fail
    go_ret3
    exact ⟨rfl, 0, rfl⟩
  obtain ⟨c, hc⟩ : ∃ c, l[16]? = some c := ⟨_, List.getElem?_eq_getElem (by omega)⟩
  have hix := index_bs (P := Try.prog) Try.underlying9 .i64 l 16 16 c rfl hc
  by_cases h47 : c = 47
  case neg =>
    rw [if_neg (fun h => h47 (Option.some.inj (hc.symm.trans h.2.1)))]
    have hb : ((c.toNat : Int) != 47) = true := by
      rw [bne_iff_ne]
      intro h
      exact h47 (UInt8.toNat_inj.1 (by have h2 : (47 : UInt8).toNat = 47 := rfl; omega))
    clear hc h47
    go_enter Try.func37, Try.ntmps37
    go_wp2_with fail
    go_ret3
    exact ⟨rfl, 0, rfl⟩
  subst h47
  have hs1 : ∀ w, (Instr.slice 9 (.string (bs l)) none (some (.int .i64 16)) none).run Try.prog w = .ok (.string (bs (l.take 16))) w := slice_to (P := Try.prog) Try.underlying9 l 16 (by omega)
  have hs2 : ∀ w, (Instr.slice 9 (.string (bs l)) (some (.int .i64 17)) none none).run Try.prog w = .ok (.string (bs (l.drop 17))) w := slice_from (P := Try.prog) Try.underlying9 l 17 (by omega)
  have hl1 : (l.take 16).length ≤ 1000000000000 := by have := List.length_take_le 16 l; omega
  have hq : ∀ z : Option (List UInt8 × List UInt8), (if 17 ≤ l.length ∧ l[16]? = some 47 ∧ (parse (l.take 16)).isSome = true ∧ l.drop 17 ∈ parts then some (l.take 16, l.drop 17) else none) = (if (parse (l.take 16)).isSome = true ∧ l.drop 17 ∈ parts then some (l.take 16, l.drop 17) else none) := fun _ => by
    simp only [h17, hc, true_and]
  rw [hq none]
  clear hq
  have hp := refParse_any (l.take 16)
  obtain ⟨u, hu⟩ : ∃ u, parse (l.take 16) = u := ⟨_, rfl⟩
  obtain ⟨y, hy⟩ : ∃ y, l.drop 17 = y := ⟨_, rfl⟩
  rw [hu] at hp ⊢
  rw [hy] at hs2 ⊢
  have HP := Lib.hid hp
  clear hp hu hc hy
  rcases u with _ | ⟨t, s⟩
  · rw [if_neg (fun h => by cases h.1)]
    simp only [refParseV] at HP
    go_enter Try.func37, Try.ntmps37
    go_wp2_with fail
    refine (HP.out _ hl1).mono ?_
    rintro e w' ⟨rfl, n, rfl⟩
    go_wp2_with fail
    go_ret3
    exact ⟨rfl, n, rfl⟩
  · simp only [refParseV] at HP
    have hpt : y ∈ parts ∨ (y ∉ parts ∧ (y == [99, 104, 117, 110, 107, 115]) = false ∧ (y == [105, 110, 100, 101, 120]) = false ∧ (y == [109, 101, 116, 97]) = false ∧ (y == [109, 97, 114, 107]) = false) := by
      by_cases h : y ∈ parts
      · exact .inl h
      · refine .inr ⟨h, ?_, ?_, ?_, ?_⟩ <;> (rw [beq_eq_false_iff_ne]; rintro rfl; exact h (by decide))
    rcases hpt with hm | ⟨hm, h1, h2, h3, h4⟩
    · rw [if_pos ⟨rfl, hm⟩]
      simp only [parts, List.mem_cons, List.not_mem_nil, or_false] at hm
      rcases hm with rfl | rfl | rfl | rfl
      all_goals
        go_enter Try.func37, Try.ntmps37
        go_wp2_with fail
        refine (HP.out _ hl1).mono ?_
        rintro e w' ⟨rfl, n, rfl⟩
        go_wp2_with fail
        go_ret3
        exact ⟨rfl, n, rfl⟩
    · rw [if_neg (fun h => hm h.2)]
      go_enter Try.func37, Try.ntmps37
      go_wp2_with fail
      refine (HP.out _ hl1).mono ?_
      rintro e w' ⟨rfl, n, rfl⟩
      go_wp2_with fail
      all_goals first
        | (go_ret3; exact ⟨rfl, n, rfl⟩)
        | (exfalso; simp_all)

/-- the layer is awake -/
theorem split_awake : split (mk 33 1 ++ [47, 109, 101, 116, 97]) = some (mk 33 1, [109, 101, 116, 97]) := by decide +kernel
theorem mk_awake : mk 33 1 = [48, 48, 48, 48, 48, 48, 49, 49, 48, 48, 48, 48, 48, 48, 48, 49] := by decide +kernel
set_option maxHeartbeats 1000000 in
set_option maxRecDepth 10000 in
theorem awake8_any (w : World) : Calls Try.prog 38 #[] w (RetBelow w (.bool true)) := by
  have h1 : ∀ w, Calls Try.prog 32 #[.int .i64 33, .int .i64 1] w (RetBelow w (.tuple #[.string (bs [48, 48, 48, 48, 48, 48, 49, 49, 48, 48, 48, 48, 48, 48, 48, 49]), .int .i64 0])) := fun w => by
    have := make_ok 33 1 w ⟨by omega, by omega⟩ ⟨by omega, by omega⟩
    rw [← mk_awake]
    exact this
  have h2 : ∀ w, Calls Try.prog 36 #[.string (bs [48, 48, 48, 48, 48, 48, 49, 49, 48, 48, 48, 48, 48, 48, 48, 49, 47, 109, 101, 116, 97])] w (Quiet w (.tuple #[.string (bs [48, 48, 48, 48, 48, 48, 49, 49, 48, 48, 48, 48, 48, 48, 48, 49]), .string (bs [109, 101, 116, 97]), .bool true])) := fun w => by
    have := split_any (mk 33 1 ++ [47, 109, 101, 116, 97]) w (by rw [List.length_append, mk_length]; decide)
    rw [split_awake, mk_awake] at this
    exact this
  have H1 := Lib.hid h1
  have H2 := Lib.hid h2
  clear h1 h2
  go_enter Try.func38, Try.ntmps38
  go_wp2_with fail
  refine (H1.out _).mono ?_
  rintro e w1 ⟨rfl, hb1⟩
  go_wp2_with fail
  refine (H2.out _).mono ?_
  rintro e w2 ⟨rfl, n, rfl⟩
  go_wp2_with fail
  go_ret
  exact ⟨rfl, below_drewN hb1 n⟩

end Go.Proofs.Ytmnakjjhphoopaa
