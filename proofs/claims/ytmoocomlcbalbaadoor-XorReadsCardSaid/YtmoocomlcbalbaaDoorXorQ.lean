/-
  Layer 7: the walks of the small functions of the document's answer (barographref07).
-/
import Derived.Test.YtmoocomlcbalbaaDoorXorP
import Derived.Test.YtmoocomlcbalbaaDoorBitO
import Derived.Test.YtmoocomlcbalbaaDoorLebR
namespace Go.Proofs.YtmoocomlcbalbaaDoor
open Go.RowKit Go.Bar Go.Bar.Bit Go.Bar.Leb Go.Bar.Xor

theorem bitsOf_get (v : Nat) : ∀ (n k : Nat), k < n → (bitsOf v n)[k]? = some (v / 2 ^ (n - 1 - k) % 2 == 1)
  | 0, k, h => absurd h (by omega)
  | n + 1, 0, _ => by rw [bitsOf]; simp
  | n + 1, k + 1, h => by
    rw [bitsOf, List.getElem?_cons_succ, bitsOf_get v n k (by omega), show n + 1 - 1 - (k + 1) = n - 1 - k by omega]
theorem width_iff (v n : Nat) : v / 2 ^ n = 0 ↔ width v ≤ n := by
  constructor
  · intro h
    refine width_lt n v ?_
    rcases Nat.div_eq_zero_iff.1 h with h | h
    · have := Nat.two_pow_pos n; omega
    · exact h
  · intro h
    exact Nat.div_eq_of_lt (Nat.lt_of_lt_of_le (width_spec v).1 (Nat.pow_le_pow_right (by omega) h))
theorem lead_bits {x k : Nat} (h0 : 0 < x) (hx : x < 18446744073709551616) (hk : k ≤ 64 - width x) (hk2 : k < 64) :
    (x / 2 ^ (63 - k) % 2 == 1) = decide (k = 64 - width x) := by
  have hw := width_le x hx
  have hp : 0 < width x := by rw [width_pos x h0]; omega
  obtain ⟨h1, h2⟩ := width_spec x
  have h2 := h2 h0
  by_cases h : k = 64 - width x
  · subst h
    rw [show 63 - (64 - width x) = width x - 1 by omega, decide_eq_true rfl, beq_iff_eq]
    have h3 : x / 2 ^ (width x - 1) < 2 := by
      rw [Nat.div_lt_iff_lt_mul (Nat.two_pow_pos _)]
      have : 2 ^ width x = 2 * 2 ^ (width x - 1) := by rw [← Nat.pow_succ']; congr 1; omega
      omega
    have h4 : 1 ≤ x / 2 ^ (width x - 1) := by rw [Nat.le_div_iff_mul_le (Nat.two_pow_pos _)]; omega
    omega
  · rw [decide_eq_false h, beq_eq_false_iff_ne, (width_iff x (63 - k)).2 (by omega)]
    decide
theorem last_bits {x k : Nat} (h0 : 0 < x) (hx : x < 18446744073709551616) (hk : 63 - tz x ≤ k) (hk2 : k < 64) :
    (x / 2 ^ (63 - k) % 2 == 1) = decide (k = 63 - tz x) := by
  have hw := width_le x hx
  obtain ⟨h1, h2, h3⟩ := tz_spec x h0
  by_cases h : k = 63 - tz x
  · subst h
    rw [show 63 - (63 - tz x) = tz x by omega, decide_eq_true rfl, beq_iff_eq]
    exact h2
  · rw [decide_eq_false h, beq_eq_false_iff_ne, tz_low x (63 - k) (by omega)]
    decide

theorem rfold_any (v : Int) (w : World) (h1 : -9223372036854775808 ≤ v) (h2 : v ≤ 9223372036854775807) :
    Calls Tryd.prog 51 #[.int .i64 v] w fun e w' => e = .returned (.int .u64 (fold v : Nat)) ∧ w = w' := by
  go_enter Tryd.func51, Tryd.ntmps51
  go_wp2_with fail
  refine (refFold_any v _ h1 h2).mono ?_
  rintro e w' ⟨rfl, rfl⟩
  go_wp2_with fail
  go_ret
  exact ⟨rfl, rfl⟩

theorem runfold_any (n : Nat) (w : World) (h : n < 18446744073709551616) :
    Calls Tryd.prog 29 #[.int .u64 n] w fun e w' => e = .returned (.int .i64 (unfold n)) ∧ w = w' := by
  rcases Nat.mod_two_eq_zero_or_one n with hm | hm
  · have hd : (((n : Nat) : Int) % 2 == 1) = false := by rw [beq_eq_false_iff_ne]; omega
    have hu : unfold n = ((n / 2 : Nat) : Int) := by unfold unfold; rw [if_neg (by omega)]
    rw [hu]
    clear hu
    go_enter Tryd.func29, Tryd.ntmps29
    go_wp2_with fail
    go_ret
    exact ⟨by go_num, rfl⟩
  · have hd : (((n : Nat) : Int) % 2 == 1) = true := by rw [beq_iff_eq]; omega
    have hu : unfold n = -((n / 2 : Nat) : Int) - 1 := by unfold unfold; rw [if_pos hm]
    rw [hu]
    clear hu
    go_enter Tryd.func29, Tryd.ntmps29
    go_wp2_with fail
    go_ret
    exact ⟨by go_num, rfl⟩

set_option maxHeartbeats 400000 in
set_option maxRecDepth 10000 in
theorem rfits_any (u n : Nat) (w : World) (hn : n ≤ 64) (hu : u < 18446744073709551616) :
    Calls Tryd.prog 52 #[.int .u64 (u : Int), .int .i64 (n : Int)] w fun e w' => e = .returned (.bool (decide (width u ≤ n))) ∧ w = w' := by
  have HW := Lib.hid (width_iff u n)
  go_enter Tryd.func52, Tryd.ntmps52
  go_wp2_with fail
  go_loop [0, 5] (fun v i => ∃ (k c : Nat), k ≤ n ∧ c < 18446744073709551616 ∧ v = .int .u64 (c : Int) ∧ i = .int .i64 (k : Int) ∧ Hid (c = u / 2 ^ k)) (fun _ i => n - (intOf i).toNat)
  case atStart => exact ⟨0, u, Nat.zero_le _, hu, rfl, rfl, Lib.hid (by simp)⟩
  case round =>
    obtain ⟨k, c, hk, hc, rfl, rfl, HC⟩ := hrel
    by_cases hgo : k < n
    · go_wp2_with fail
      go_round
      case rel => exact ⟨k + 1, c / 2, by omega, by omega, by go_num, by go_num, Lib.hid (by rw [HC.out, Nat.pow_succ, Nat.div_div_eq_div_mul])⟩
      case measure => simp [intOf]; omega
    · obtain rfl : k = n := by omega
      by_cases h0 : c = 0
      · have hd : (((c : Nat) : Int) == 0) = true := by rw [beq_iff_eq]; omega
        have hr := decide_eq_true (HW.out.1 (by rw [← HC.out]; exact h0))
        have HR := Lib.hid hr
        clear hr h0
        go_wp2_with fail
        go_ret
        rw [HR.out]
        exact ⟨rfl, rfl⟩
      · have hd : (((c : Nat) : Int) == 0) = false := by rw [beq_eq_false_iff_ne]; omega
        have hr := decide_eq_false (fun h => h0 (by rw [HC.out]; exact HW.out.2 h))
        have HR := Lib.hid hr
        clear hr h0
        go_wp2_with fail
        go_ret
        rw [HR.out]
        exact ⟨rfl, rfl⟩

set_option maxHeartbeats 400000 in
set_option maxRecDepth 10000 in
theorem rsize_any (k : Nat) (w : World) (hk : k ≤ 4) :
    Calls Tryd.prog 28 #[.int .i64 (k : Int)] w fun e w' => e = .returned (.int .i64 (wd k : Nat)) ∧ w = w' := by
  rcases (show k = 0 ∨ k = 1 ∨ k = 2 ∨ k = 3 ∨ k = 4 by omega) with rfl | rfl | rfl | rfl | rfl
  all_goals
    go_enter Tryd.func28, Tryd.ntmps28
    go_wp2_with fail
    go_ret
    exact ⟨rfl, rfl⟩

set_option maxHeartbeats 1000000 in
set_option maxRecDepth 10000 in
theorem rzeros_any (x : Nat) (w : World) (h0 : 0 < x) (hx : x < 18446744073709551616) :
    Calls Tryd.prog 54 #[.int .u64 (x : Int)] w (RetBelow w (.int .i64 ((64 - width x : Nat) : Int))) := by
  have hp : 0 < width x := by rw [width_pos x h0]; omega
  obtain ⟨z, hz⟩ : ∃ z, z = 64 - width x := ⟨_, rfl⟩
  have hz2 : z < 64 := by omega
  have HL := Lib.hid (fun k (h : k ≤ z) => (show (bitsOf x 64)[k]? = some (decide (k = z)) by
    rw [bitsOf_get x 64 k (by omega), show 64 - 1 - k = 63 - k by omega, lead_bits h0 hx (by omega) (by omega), hz]))
  have HBT := Lib.hid (fun w => refBits_any x 64 w (by omega) (by omega) hx)
  rw [← hz]
  clear hz hp
  obtain ⟨L, hL⟩ : ∃ L, L = bitsOf x 64 := ⟨_, rfl⟩
  have hlen : L.length = 64 := by rw [hL, bitsOf_length]
  rw [← hL] at HL
  have HBT : Hid (∀ w, Calls Tryd.prog 46 #[.int .u64 (x : Int), .int .i64 64] w (RetBools w L)) := Lib.hid (fun w => by rw [hL]; exact HBT.out w)
  clear hL
  go_enter Tryd.func54, Tryd.ntmps54
  go_wp2_with fail
  refine (HBT.out _).mono ?_
  rintro e w1 ⟨v1, rfl, hat, hb1⟩
  obtain ⟨b, o, c, rfl, hbl0, hc, hcell, _⟩ := Buf.at_ hat.buf (by omega)
  rw [hlen] at hcell hc ⊢
  have HCE := Lib.hid (fun k (h : k ≤ z) => (show w1.cell? ⟨b, o + k, none⟩ = some (.bool (decide (k = z))) by
    rw [hcell k (by omega)]
    unfold bls
    rw [List.getElem?_map, HL.out k h]
    rfl))
  clear hcell hat hlen
  go_wp2_with fail
  go_loopw [8] (fun i wr => ∃ k : Nat, k ≤ z ∧ i = .int .i64 (k : Int) ∧ wr = w1) (fun i _ => 64 - (intOf i).toNat)
  case atStart => exact ⟨0, Nat.zero_le _, rfl, rfl⟩
  case round =>
    obtain ⟨k, hk, rfl, rfl⟩ := hrel
    have hce := HCE.out k hk
    by_cases hkz : k = z
    · subst hkz
      rw [decide_eq_true rfl] at hce
      go_wp2_with fail
      go_ret
      exact ⟨rfl, hb1⟩
    · rw [decide_eq_false hkz] at hce
      go_wp2_with fail
      go_roundw
      case rel => exact ⟨k + 1, by omega, by go_num, by first | trivial | rfl⟩
      case measure => simp [intOf]; omega

set_option maxHeartbeats 1000000 in
set_option maxRecDepth 10000 in
theorem rlast_any (x : Nat) (w : World) (h0 : 0 < x) (hx : x < 18446744073709551616) :
    Calls Tryd.prog 55 #[.int .u64 (x : Int)] w (RetBelow w (.int .i64 ((63 - tz x : Nat) : Int))) := by
  obtain ⟨z, hz⟩ : ∃ z, z = 63 - tz x := ⟨_, rfl⟩
  have hz2 : z < 64 := by omega
  have HL := Lib.hid (fun k (h : z ≤ k) (h2 : k < 64) => (show (bitsOf x 64)[k]? = some (decide (k = z)) by
    rw [bitsOf_get x 64 k (by omega), show 64 - 1 - k = 63 - k by omega, last_bits h0 hx (by omega) (by omega), hz]))
  have HBT := Lib.hid (fun w => refBits_any x 64 w (by omega) (by omega) hx)
  rw [← hz]
  clear hz
  obtain ⟨L, hL⟩ : ∃ L, L = bitsOf x 64 := ⟨_, rfl⟩
  have hlen : L.length = 64 := by rw [hL, bitsOf_length]
  rw [← hL] at HL
  have HBT : Hid (∀ w, Calls Tryd.prog 46 #[.int .u64 (x : Int), .int .i64 64] w (RetBools w L)) := Lib.hid (fun w => by rw [hL]; exact HBT.out w)
  clear hL
  go_enter Tryd.func55, Tryd.ntmps55
  go_wp2_with fail
  refine (HBT.out _).mono ?_
  rintro e w1 ⟨v1, rfl, hat, hb1⟩
  obtain ⟨b, o, c, rfl, hbl0, hc, hcell, _⟩ := Buf.at_ hat.buf (by omega)
  rw [hlen] at hcell hc ⊢
  have HCE := Lib.hid (fun k (h : k < 64) => (show ∃ y, w1.cell? ⟨b, o + k, none⟩ = some (.bool y) ∧ (z ≤ k → y = decide (k = z)) by
    obtain ⟨y, hy⟩ : ∃ y, L[k]? = some y := ⟨_, List.getElem?_eq_getElem (by omega)⟩
    refine ⟨y, ?_, fun hk => ?_⟩
    · rw [hcell k (by omega)]
      unfold bls
      rw [List.getElem?_map, hy]
      rfl
    · have := HL.out k hk h
      rw [hy] at this
      exact Option.some.inj this))
  clear hcell hat hlen
  go_wp2_with fail
  go_loopw [3, 9] (fun at_ i wr => ∃ (k : Nat) (y : Int), k ≤ 64 ∧ i = .int .i64 (k : Int) ∧ at_ = .int .i64 y ∧ -1 ≤ y ∧ y ≤ 64 ∧ Hid (z < k → y = z) ∧ wr = w1) (fun _ i _ => 64 - (intOf i).toNat)
  case atStart => exact ⟨0, -1, by omega, rfl, rfl, by omega, by omega, Lib.hid (fun h => absurd h (by omega)), rfl⟩
  case round =>
    obtain ⟨k, y, hk, rfl, rfl, hy1, hy2, HY, rfl⟩ := hrel
    by_cases hk64 : k < 64
    · obtain ⟨t, hce, ht⟩ := HCE.out k hk64
      have HT := Lib.hid ht
      clear ht
      cases t
      · have HN := Lib.hid (show z < k + 1 → y = (z : Int) from fun h => HY.out (by
          rcases Nat.lt_or_ge z k with h1 | h1
          · exact h1
          · obtain rfl : k = z := by omega
            have := HT.out (Nat.le_refl _)
            simp at this))
        go_wp2_with fail
        go_roundw
        case rel => exact ⟨k + 1, y, by omega, by go_num, rfl, hy1, hy2, HN, by first | trivial | rfl⟩
        case measure => simp [intOf]; omega
      · have HN := Lib.hid (show z < k + 1 → (k : Int) = (z : Int) from fun h => by
          have := HT.out (by omega)
          have := of_decide_eq_true this.symm
          omega)
        go_wp2_with fail
        go_roundw
        case rel => exact ⟨k + 1, k, by omega, by go_num, rfl, by omega, by omega, HN, by first | trivial | rfl⟩
        case measure => simp [intOf]; omega
    · have hyz : y = z := HY.out (by omega)
      subst hyz
      go_wp2_with fail
      go_ret
      exact ⟨rfl, hb1⟩

set_option maxHeartbeats 1000000 in
set_option maxRecDepth 10000 in
/-- are they samples of a chunk? -/
theorem rgood_any (l : List Sm) (v : Value) (w : World) (h : SmsAt w v l) :
    Calls Tryd.prog 19 #[v] w (RetBelow w (.int .i64 ((ofS St.zero l).2 : Nat))) := by
  obtain ⟨A, c, rfl, hlc, hcm⟩ := h.shape
  unfold maxLen at hcm
  obtain ⟨R, hR⟩ : ∃ R, R = (ofS St.zero l).2 := ⟨_, rfl⟩
  rw [← hR]
  have HR := Lib.hid hR
  clear hR
  go_enter Tryd.func19, Tryd.ntmps19
  go_wp2_with fail
  go_loopw [7] (fun i wr => ∃ (k : Nat) (s : St), k ≤ l.length ∧ i = .int .i64 (k : Int) ∧ k ≤ 120 ∧ Hid (s.n = k) ∧ Hid (0 < k → l[k - 1]? = some (s.t, s.v)) ∧ Hid ((ofS s (l.drop k)).2 = R) ∧ Below w.heap.size w wr) (fun i _ => l.length - (intOf i).toNat)
  case atStart => exact ⟨0, St.zero, Nat.zero_le _, rfl, by omega, Lib.hid rfl, Lib.hid (fun h => absurd h (by omega)), Lib.hid (by rw [List.drop_zero, HR.out]), Below.refl _ _⟩
  case round =>
    obtain ⟨k, s, hk, rfl, hk120, HN, HP, HO, hB⟩ := hrel
    by_cases hgo : k < l.length
    · obtain ⟨x, hxk⟩ : ∃ x, l[k]? = some x := ⟨_, List.getElem?_eq_getElem hgo⟩
      have hdr := ofS_drop (s := s) hxk
      obtain ⟨b, o, rfl, hb, f0, f1⟩ := (h.below hB).at_ hxk
      have hci : (0 : Int) ≤ (k : Int) := by omega
      have hci2 : (k : Int) < l.length := by omega
      have HDR := Lib.hid hdr
      have HXK := Lib.hid hxk
      have HBX := Lib.hid (ba1 wr (.cells #[.int .i64 x.1, .int .u64 (x.2 : Nat)] 38))
      have HBK := Lib.hid (Blk.new wr #[.int .i64 x.1, .int .u64 (x.2 : Nat)] 38)
      obtain ⟨T, V⟩ := x
      clear hdr hxk
      simp only at f0 f1 HBX HBK HDR HXK
      have x0 : (wr.alloc (.cells #[.int .i64 T, .int .u64 (V : Nat)] 38)).cell? ⟨wr.heap.size, 0, none⟩ = some (.int .i64 T) := HBK.out.cell (i := 0) rfl
      by_cases e1 : T < 0 ∨ 1099511627776 < T
      · have HE := Lib.hid (show R = 1 by rw [← HO.out, HDR.out]; unfold err; simp only [if_pos e1]; rfl)
        rcases (show T < 0 ∨ (0 ≤ T ∧ 1099511627776 < T) by omega) with g | ⟨g, g'⟩
        all_goals
          clear e1
          go_wp2_with fail
          go_ret
          exact ⟨by rw [HE.out]; rfl, below_trans hB HBX.out⟩
      · have hT0 : 0 ≤ T := by omega
        have hT1 : T ≤ 1099511627776 := by omega
        have HE1 := Lib.hid e1
        clear e1
        by_cases hk0 : (k : Int) ≤ 0
        · have HE := Lib.hid (show err s (T, V) = 0 by unfold err; rw [if_neg HE1.out, if_neg (by rw [HN.out]; omega), if_neg (by rw [HN.out]; omega)])
          have HO2 := Lib.hid (show (ofS (s.put (T, V)) (l.drop (k + 1))).2 = R by rw [← HO.out, HDR.out, if_pos HE.out])
          have hpn := put_n s (T, V)
          have HPN := Lib.hid hpn
          clear hpn
          have dk : decide (0 < k) = false := decide_eq_false (by omega)
          go_upto_region 6 with fail
          obtain ⟨wA, hwA⟩ : ∃ x : World, x = wr.alloc (.cells #[.int .i64 T, .int .u64 (V : Nat)] 38) := ⟨_, rfl⟩
          rw [← hwA]
          have HA := Lib.hid (show Below wr.heap.size wr wA by rw [hwA]; exact HBX.out)
          clear x0 hwA
          refine wp_region_known [] (by kernel_rfl) 36 (by kernel_rfl) rfl ?_
          repeat (first
            | (refine Chain.step (v := ?_) (a' := ?_) rfl rfl rfl ?_ ?_ ?_
               rotate_left 2
               focus (intro w; go_simp; try with_reducible rfl)
               focus (simp only [Act.put, List.setIfInBounds_toArray, List.set_cons_succ, List.set_cons_zero]; try rfl))
            | (refine Chain.call (a' := ?_) _ rfl rfl rfl (fun wx hw => ?_) ?_ ?_
               rotate_left 1
               focus
                 first
                 | fail
               focus (simp only [Act.put, List.setIfInBounds_toArray, List.set_cons_succ, List.set_cons_zero]; try rfl))
            | (refine Chain.skip (a' := ?_) rfl rfl rfl ?_ ?_
               rotate_left 1
               focus (simp only [Act.put, List.setIfInBounds_toArray, List.set_cons_succ, List.set_cons_zero]; try rfl)))
          refine Chain.end_ (fun wz hwz _ => ?_)
          go_wp2_with fail
          go_roundw
          case rel => exact ⟨k + 1, s.put (T, V), by omega, by go_num, by omega, Lib.hid (by rw [HPN.out.1, HN.out]), Lib.hid (fun _ => by rw [show k + 1 - 1 = k by omega, HXK.out, HPN.out.2.1, HPN.out.2.2]), HO2, below_trans hB (below_trans HA.out hwz)⟩
          case measure => simp [intOf]; omega
        · obtain ⟨j, rfl⟩ : ∃ j, k = j + 1 := ⟨k - 1, by omega⟩
          have hprev := HP.out (by omega)
          rw [show j + 1 - 1 = j by omega] at hprev
          obtain ⟨b', o', he', _, p0, _⟩ := (h.below hB).at_ hprev
          injection he' with he'
          injection he' with e1 e2
          subst e1; subst e2
          have hjj : ((j + 1 : Nat) : Int) - 1 = (j : Int) := by omega
          obtain ⟨st, hst⟩ : ∃ st, st = s.t := ⟨_, rfl⟩
          simp only at p0
          rw [← hst] at p0
          have HST := Lib.hid hst
          have p1 : (wr.alloc (.cells #[.int .i64 T, .int .u64 (V : Nat)] 38)).cell? ⟨b, o + j * 2, none⟩ = some (.int .i64 st) := (HBX.out.cell (p := ⟨b, o + j * 2, none⟩) (World.block_lt_of_cell? _ _ p0)).trans p0
          have hjl : (j : Int) < l.length := by omega
          have hjz : (0 : Int) ≤ (j : Int) := by omega
          have hwj : IntKind.i64.wrap (j : Int) = (j : Int) := IntWalk.i64_in _ ⟨by omega, by omega⟩
          clear hprev hst
          go_upto_region 6 with fail
          obtain ⟨wA, hwA⟩ : ∃ x : World, x = wr.alloc (.cells #[.int .i64 T, .int .u64 (V : Nat)] 38) := ⟨_, rfl⟩
          rw [← hwA]
          have HA := Lib.hid (show Below wr.heap.size wr wA by rw [hwA]; exact HBX.out)
          have HX0 := Lib.hid (show wA.cell? ⟨wr.heap.size, 0, none⟩ = some (.int .i64 T) by rw [hwA]; exact x0)
          have HP1 := Lib.hid (show wA.cell? ⟨b, o + j * 2, none⟩ = some (.int .i64 st) by rw [hwA]; exact p1)
          clear x0 p1 hwA
          refine wp_region_known [(4, .int .i64 T), (10, .int .i64 st)] (by kernel_rfl) 36 (by kernel_rfl) rfl ?_
          repeat (first
            | (refine Chain.step (v := ?_) (a' := ?_) rfl rfl rfl ?_ ?_ ?_
               rotate_left 2
               focus (intro w; go_simp; try with_reducible rfl)
               focus (simp only [Act.put, List.setIfInBounds_toArray, List.set_cons_succ, List.set_cons_zero]; try rfl))
            | (refine Chain.call (a' := ?_) _ rfl rfl rfl (fun wx hw => ?_) ?_ ?_
               rotate_left 1
               focus
                 first
                 | (have g0 := (hw.cell (p := ⟨wr.heap.size, 0, none⟩) (World.block_lt_of_cell? _ _ HX0.out)).trans HX0.out
                    have g1 := (hw.cell (p := ⟨b, o + j * 2, none⟩) (World.block_lt_of_cell? _ _ HP1.out)).trans HP1.out
                    go_simp
                    first | exact ⟨rfl, Below.refl _ _⟩ | exact Below.refl _ _)
               focus (simp only [Act.put, List.setIfInBounds_toArray, List.set_cons_succ, List.set_cons_zero]; try rfl))
            | (refine Chain.skip (a' := ?_) rfl rfl rfl ?_ ?_
               rotate_left 1
               focus (simp only [Act.put, List.setIfInBounds_toArray, List.set_cons_succ, List.set_cons_zero]; try rfl)))
          refine Chain.end_ (fun wz hwz _ => ?_)
          have HBZ := Lib.hid (below_trans hB (below_trans HA.out hwz))
          clear hwz hwj f0 f1 p0 hci hci2
          by_cases e2 : T ≤ st
          · have he : err s (T, V) = 10 := by unfold err; rw [if_neg HE1.out, if_pos ⟨by rw [HN.out]; omega, by rw [← HST.out]; exact e2⟩]
            have HE := Lib.hid (show R = 10 by rw [← HO.out, HDR.out, if_neg (by rw [he]; decide)]; exact he)
            clear he
            go_wp2_with fail
            go_ret
            exact ⟨by rw [HE.out]; rfl, HBZ.out⟩
          · have HE2 := Lib.hid (show ¬ (0 < s.n ∧ (T, V).1 ≤ s.t) from fun h => e2 (by rw [HST.out]; exact h.2))
            by_cases e3 : j + 1 = 120
            · have he : err s (T, V) = 7 := by unfold err; rw [if_neg HE1.out, if_neg HE2.out, if_pos (by rw [HN.out]; exact e3)]
              have HE := Lib.hid (show R = 7 by rw [← HO.out, HDR.out, if_neg (by rw [he]; decide)]; exact he)
              clear he
              obtain rfl : j = 119 := by omega
              clear e3
              go_wp2_with fail
              go_ret
              exact ⟨by rw [HE.out]; rfl, HBZ.out⟩
            · have HE := Lib.hid (show err s (T, V) = 0 by unfold err; rw [if_neg HE1.out, if_neg HE2.out, if_neg (by rw [HN.out]; exact e3)])
              have HO2 := Lib.hid (show (ofS (s.put (T, V)) (l.drop (j + 1 + 1))).2 = R by rw [← HO.out, HDR.out, if_pos HE.out])
              have hpn := put_n s (T, V)
              have HPN := Lib.hid hpn
              have hd3 : (((j : Nat) : Int) + 1 == 120) = false := by rw [beq_eq_false_iff_ne]; omega
              have hj118 : j < 119 := by omega
              clear hpn e3
              go_wp2_with fail
              go_roundw
              case rel => exact ⟨j + 1 + 1, s.put (T, V), by omega, by go_num, by omega, Lib.hid (by rw [HPN.out.1, HN.out]), Lib.hid (fun _ => by rw [show j + 1 + 1 - 1 = j + 1 by omega, HXK.out, HPN.out.2.1, HPN.out.2.2]), HO2, HBZ.out⟩
              case measure => simp [intOf]; omega
    · obtain rfl : k = l.length := by omega
      have HE := Lib.hid (show R = 0 by rw [← HO.out, List.drop_length]; rfl)
      clear hgo
      go_wp2_with fail
      go_ret
      exact ⟨by rw [HE.out]; rfl, hB⟩

end Go.Proofs.YtmoocomlcbalbaaDoor
