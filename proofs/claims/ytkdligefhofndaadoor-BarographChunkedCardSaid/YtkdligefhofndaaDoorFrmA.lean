/-
  Layer 2: the walks of frame's functions.
-/
import Derived.Test.YtkdligefhofndaaDoorLebA
import Derived.Test.YtkdligefhofndaaDoorFrmM
import Derived.Test.YtkdligefhofndaaDoorLib3
import Derived.RegionTactic
import Derived.ChangeAlike
import Derived.Deep.RegionWith
import Derived.Deep.DeepCutAuto
import Derived.Deep.DrawnRows
namespace Go.Proofs.YtkdligefhofndaaDoor
open Go.RowKit Go.Bar Go.Bar.Leb Go.Bar.Frm

theorem u32_low (c b k : Nat) (hc : c < 4294967296) (hb : b < 256) : bits .and .u32 (bits .xor .u32 (c : Int) ((b / 2 ^ k : Nat) : Int)) 1 = (((c + b / 2 ^ k) % 2 : Nat) : Int) := by
  have h1 : b / 2 ^ k < 256 := Nat.lt_of_le_of_lt (Nat.div_le_self _ _) hb
  rw [u32_xor_nat c _ hc (by omega)]
  have h2 := Nat.xor_lt_two_pow (n := 32) (x := c) (y := b / 2 ^ k) (by omega) (by omega)
  have := u32_and_nat (c ^^^ (b / 2 ^ k)) 1 h2 (by omega)
  rw [show ((1 : Nat) : Int) = 1 from rfl] at this
  rw [this, Nat.and_one_is_mod]
  congr 1
  have := @Nat.xor_mod_two_eq_one c (b / 2 ^ k)
  omega

theorem more_cast (b j : Nat) (hb : b < 256) : (b : Int) / 2 ^ j % 4294967296 = ((b / 2 ^ j : Nat) : Int) := by
  have h1 : b / 2 ^ j < 256 := Nat.lt_of_le_of_lt (Nat.div_le_self _ _) hb
  have e : (b : Int) / 2 ^ j = ((b / 2 ^ j : Nat) : Int) := by
    rw [Int.natCast_ediv, Int.natCast_pow]; rfl
  rw [e]
  clear e
  generalize b / 2 ^ j = x at *
  omega
theorem more_yes {C b j : Nat} (hC : C < 4294967296) (hb : b < 256) (h : (bits .and .u32 (bits .xor .u32 (C : Int) ((b : Int) / 2 ^ j % 4294967296)) 1 == 1) = true) :
    bits .xor .u32 ((C : Int) / 2) 2197175160 = ((bstep C (b / 2 ^ j) : Nat) : Int) := by
  rw [more_cast b j hb, u32_low C b j hC hb, beq_iff_eq] at h
  unfold bstep
  rw [if_pos (by omega)]
  have := u32_xor_nat (C / 2) 2197175160 (by omega) (by omega)
  rw [← this]
  rfl
theorem more_no {C b j : Nat} (hC : C < 4294967296) (hb : b < 256) (h : (bits .and .u32 (bits .xor .u32 (C : Int) ((b : Int) / 2 ^ j % 4294967296)) 1 == 1) = false) :
    (C : Int) / 2 = ((bstep C (b / 2 ^ j) : Nat) : Int) := by
  rw [more_cast b j hb, u32_low C b j hC hb, beq_eq_false_iff_ne] at h
  unfold bstep
  rw [if_neg (by omega)]
  rfl
theorem no_bits (n : Nat) (h : n < 4294967296) : bits .xor .u32 IntKind.u32.max (n : Int) = ((no n : Nat) : Int) := by
  have h1 := u32_xor_nat 4294967295 n (by omega) h
  have e : IntKind.u32.max = ((4294967295 : Nat) : Int) := rfl
  rw [e, h1]
  unfold no
  congr 1
  apply Nat.eq_of_testBit_eq
  intro i
  rw [Nat.testBit_xor]
  have h2 := Nat.testBit_two_pow_sub_succ (x := n) (n := 32) h i
  rw [show 2 ^ 32 - (n + 1) = 4294967295 - n by omega] at h2
  rw [h2]
  have h3 := Nat.testBit_two_pow_sub_one 32 i
  rw [show (2 : Nat) ^ 32 - 1 = 4294967295 from rfl] at h3
  rw [h3]
  by_cases hi : i < 32
  · simp [hi]
  · have := Nat.testBit_lt_two_pow (x := n) (i := i) (Nat.lt_of_lt_of_le h (show 4294967296 ≤ 2 ^ i from Nat.pow_le_pow_right (show 0 < 2 by decide) (show 32 ≤ i by omega)))
    simp [hi, this]

set_option maxHeartbeats 400000 in
set_option maxRecDepth 10000 in
theorem more_any (s : ByteArray) (n : Nat) (w : World) (hs : s.size ≤ maxLen) (hn : n < 4294967296) :
    Calls Tryd.prog 15 #[.int .u32 n, .string s] w fun e w' => e = .returned (.int .u32 (more n s.data.toList)) ∧ w = w' := by
  unfold maxLen at hs
  go_enter Tryd.func15, Tryd.ntmps15
  go_wp2
  go_loop [5, 13] (fun c i => ∃ k : Nat, k ≤ s.size ∧ i = .int .i64 k ∧ c = .int .u32 (crc (no n) (s.data.toList.take k))) (fun _ i => s.size - (intOf i).toNat)
  case atStart => exact ⟨0, Nat.zero_le _, rfl, by rw [no_bits n hn]; rfl⟩
  case round =>
    obtain ⟨k, hk, rfl, rfl⟩ := hrel
    have hC := crc_lt (s.data.toList.take k) (no_lt n)
    by_cases hlt : k < s.size
    · go_wp2
      go_loop [5, 16] (fun c i => ∃ j : Nat, j ≤ 8 ∧ i = .int .i64 j ∧ c = .int .u32 (bsteps j (crc (no n) (s.data.toList.take k)) s[k].toNat)) (fun _ i => 8 - (intOf i).toNat)
      case atStart => exact ⟨0, by omega, rfl, rfl⟩
      case round =>
        obtain ⟨j, hj, rfl, rfl⟩ := hrel
        have hD := bsteps_lt j (b := s[k].toNat) hC
        by_cases hj8 : j < 8
        · go_wp2
          all_goals
            go_round
            case rel => exact ⟨j + 1, by omega, by go_num, by first | rw [more_yes hD (UInt8.toNat_lt _) (by assumption)]; rfl | rw [more_no hD (UInt8.toNat_lt _) (by assumption)]; rfl⟩
            case measure => simp [intOf]; omega
        · obtain rfl : j = 8 := by omega
          have e := crc_snoc (s.data.toList.take k) s[k] (no n)
          have e2 : s.data.toList.take k ++ [s[k]] = s.data.toList.take (k + 1) := by
            rw [List.take_succ_eq_append_getElem (by simpa using hlt)]; rfl
          rw [e2] at e
          have HE := Lib.hid e
          clear e e2
          go_wp2
          go_round
          case rel => exact ⟨k + 1, by omega, by go_num, by rw [HE.out]⟩
          case measure => simp [intOf]; omega
    · go_wp2
      go_ret
      rw [no_bits _ hC, List.take_of_length_le (by rw [← size_eq]; omega)]
      exact ⟨rfl, rfl⟩

theorem more_of {m : Nat} (s : ByteArray) (n : Nat) (w : World) (hs : s.size ≤ maxLen) (hn : n < 4294967296) (h : more n s.data.toList = m) :
    Calls Tryd.prog 15 #[.int .u32 n, .string s] w fun e w' => e = .returned (.int .u32 m) ∧ w = w' := by
  rw [← h]
  exact more_any s n w hs hn

set_option maxHeartbeats 400000 in
theorem sum_any (s : ByteArray) (w : World) (hs : s.size ≤ maxLen) :
    Calls Tryd.prog 10 #[.string s] w fun e w' => e = .returned (.int .u32 (sum s.data.toList)) ∧ w = w' := by
  go_enter Tryd.func10, Tryd.ntmps10
  go_wp2_with fail
  refine (more_any s 0 _ hs (by omega)).mono ?_
  rintro e w' ⟨rfl, rfl⟩
  go_wp2_with fail
  go_ret
  exact ⟨rfl, rfl⟩

attribute [local go_sem ↓] Go.wp_at_zero Go.wp_at_succ

theorem byte4 (n : Nat) : bcs (sum4 n) = [.int .u8 ((n % 256 : Nat) : Int), .int .u8 ((n / 256 % 256 : Nat) : Int), .int .u8 ((n / 65536 % 256 : Nat) : Int), .int .u8 ((n / 16777216 % 256 : Nat) : Int)] := by
  simp [bcs, sum4]

theorem src4 {P : Program} {t e : TypeId} (hT : P.underlying t = some (.slice e)) (w : World) (n : Nat) (z0 z1 z2 z3 : Int) (h0 : z0 = ((n % 256 : Nat) : Int)) (h1 : z1 = ((n / 256 % 256 : Nat) : Int)) (h2 : z2 = ((n / 65536 % 256 : Nat) : Int)) (h3 : z3 = ((n / 16777216 % 256 : Nat) : Int)) :
    Src P 1 t (.slice (some ⟨w.heap.size, 0, none⟩) 4 4) (sum4 n).length (bcs (sum4 n)) (w.alloc (.cells #[.int .u8 z0, .int .u8 z1, .int .u8 z2, .int .u8 z3] e)) := by
  subst h0; subst h1; subst h2; subst h3
  refine Src.ofSlice _ hT _ _ _ _ rfl (fun j u hu => ?_) (fun u hu => ?_)
  · rw [byte4] at hu
    rw [addr_add, World.cell?_alloc_new, Nat.zero_add, ← hu]
    rcases j with _ | _ | _ | _ | j <;> rfl
  · simp only [bcs, List.mem_map] at hu
    obtain ⟨b, _, rfl⟩ := hu
    rfl

set_option maxHeartbeats 1000000 in
set_option maxRecDepth 10000 in
theorem append_any (V : Value) (xs : List UInt8) (k : UInt8) (d : ByteArray) (W : World) (hx : xs.length + 15 + d.size ≤ 140737488355328) (hb : BBuf W 5 V xs) :
    Calls Tryd.prog 6 #[V, .agg #[.int .u8 k.toNat, .string d]] W (RetB W V 5 xs (rec (k, d.data.toList))) := by
  have hul := u_len d.size (by omega)
  have hc1 := conv_one bytes_ty 9 Tryd.underlying9 (W.alloc (.cells #[.int .u8 k.toNat, .string d] 34)).drew (k.toNat : Int) k rfl
  rw [show (World.alloc (W.alloc (.cells #[.int .u8 k.toNat, .string d] 34)).drew (.cells #[.int .u8 k.toNat] 5)) = ((W.alloc (.cells #[.int .u8 k.toNat, .string d] 34)).alloc (.cells #[.int .u8 k.toNat] 5)).drew from rfl, show (W.alloc (.cells #[.int .u8 k.toNat, .string d] 34)).drew.heap.size = W.heap.size + 1 by simp] at hc1
  have hd : d.size ≤ maxLen := by unfold maxLen; omega
  have hs1 : (bs [k]).size ≤ maxLen := (by decide : 1 ≤ maxLen)
  have hs2 := sum_lt [k]
  have hrs : rsum (k, d.data.toList) < 4294967296 := sum_lt _
  go_enter Tryd.func6, Tryd.ntmps6
  go_upto_region 1 with fail
  go_cut [5] (fun s5 wx => s5 = .int .u32 (rsum (k, d.data.toList)) ∧ Below W.heap.size W wx ∧ W.heap.size < wx.heap.size ∧ wx.cell? ⟨W.heap.size, 0, none⟩ = some (.int .u8 k.toNat) ∧ wx.cell? ⟨W.heap.size, 1, none⟩ = some (.string d))
  case first =>
    go_region_with (first
      | (go_at_call 10; refine (sum_any (bs [k]) _ hs1).mono ?_; rintro e w' ⟨rfl, rfl⟩)
      | (go_at_call 15; refine (more_any d (sum [k]) _ hd hs2).mono ?_; rintro e w' ⟨rfl, rfl⟩))
    all_goals (go_wp2_with fail; go_meet; exact ⟨by rw [more_sum]; rfl, (((Below.refl _ _).alloc (Nat.le_refl _) _).alloc (by simp) _).drew, by simp; omega, by simp, by simp⟩)
  case rest =>
    obtain ⟨rfl, hbl, hsz, c0, c1⟩ := hcut
    clear hc1
    have hb0 := hb.below hbl
    have happ := BApp.start' hb0
    go_wp2_with (at_builtin; refine wpList_append_byte rfl (.tmp 14) (.tmp 17) 28 rfl bytes_ty _ rfl rfl happ rfl (by simp; omega) ?_; intro v1 w1 happ1; clear happ; have c1' := (happ1.cell_new hb (Nat.le_refl _) hsz).trans c1; clear c0 c1 hb0)
    refine (uint_any v1 (xs ++ [k]) d.size _ (by omega) (by rw [List.length_append]; simp; omega) happ1.buf).mono ?_
    rintro e w2 ⟨v2, rfl, happ2⟩
    have happ2 := happ1.trans happ2
    have c2 := (happ2.cell_new hb (Nat.le_refl _) hsz).trans (((happ1.cell_new hb (Nat.le_refl _) hsz).symm).trans c1')
    clear happ1 c1'
    have hsrc := src4 (P := Tryd.prog) Tryd.underlying28 w2 (rsum (k, d.data.toList)) ((rsum (k, d.data.toList) : Int) % 256) ((rsum (k, d.data.toList) : Int) / 256 % 256) ((rsum (k, d.data.toList) : Int) / 65536 % 256) ((rsum (k, d.data.toList) : Int) / 16777216) (by omega) (by omega) (by omega) (by omega)
    have HS := Lib.hid hsrc
    clear hsrc
    go_wp2_with (first
      | (at_builtin; refine wpList_append_src rfl (.tmp 25) (.tmp 37) 28 28 rfl bytes_ty rfl (happ2.alloc _) rfl HS.out (by simp [sum4_len]; omega) ?_; intro v3 w3 happ3; have c3 := (happ3.cell_new hb (Nat.le_refl _) hsz).trans (((happ2.cell_new hb (Nat.le_refl _) hsz).symm).trans c2); clear HS c2 happ2)
      | (at_builtin; refine wpList_append_str rfl (.tmp 39) (.tmp 41) 28 9 rfl bytes_ty Tryd.underlying9 d rfl happ3 rfl (by simp [sum4_len]; omega) ?_; intro v4 w4 happ4))
    go_ret
    exact ⟨v4, rfl, by
      have := happ4.after hbl hb
      have e : [] ++ [k] ++ u d.size ++ sum4 (rsum (k, d.data.toList)) ++ d.data.toList = rec (k, d.data.toList) := by simp [rec]
      rw [e] at this
      exact this⟩

end Go.Proofs.YtkdligefhofndaaDoor
