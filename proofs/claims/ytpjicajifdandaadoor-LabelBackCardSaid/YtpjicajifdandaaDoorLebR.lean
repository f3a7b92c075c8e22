/-
  Layer 1: the walks of the document's answer (barographref01): it computes what leb computes.
-/
import Derived.Test.YtpjicajifdandaaDoorLebA
import Derived.Test.YtpjicajifdandaaDoorCut
namespace Go.Proofs.YtpjicajifdandaaDoor
open Go.RowKit Go.Bar Go.Bar.Leb

set_option maxHeartbeats 400000 in
set_option maxRecDepth 10000 in
theorem refUint_any (n : Nat) (W : World) (hn : n < 18446744073709551616) :
    Calls Tryd.prog 40 #[.int .u64 n] W (RetBelow W (.string (bs (u n)))) := by
  have hul := u_len n hn
  go_enter Tryd.func40, Tryd.ntmps40
  go_wp2
  go_loopw [0, 3, 4] (fun v s i wr => ∃ (k c : Nat) (ys : List UInt8), c ≤ 9 ∧ k * 128 ^ c < 18446744073709551616 ∧ ys.length = c ∧ v = .int .u64 k ∧ s = .string (bs ys) ∧ i = .int .i64 c ∧ ys ++ u k = u n ∧ Below W.heap.size W wr) (fun _ _ i _ => 9 - (intOf i).toNat)
  case atStart => exact ⟨n, 0, [], by omega, by simpa using hn, rfl, rfl, rfl, rfl, rfl, Below.refl _ _⟩
  case round =>
    obtain ⟨k, c, ys, hc, hk, hys, rfl, rfl, rfl, hu, hbl⟩ := hrel
    have HU := Lib.hid hu
    have HL := Lib.hid hys
    have hyl : ys.length ≤ 9 := by omega
    have hk64 : k < 18446744073709551616 := by have := Nat.le_mul_of_pos_right k (show 0 < 128 ^ c from Nat.pow_pos (by omega)); omega
    clear hu hys
    by_cases hlt : c < 9 ∧ 127 < k
    · obtain ⟨hlt1, hlt2⟩ := hlt
      have HK := Lib.hid hk
      clear hk
      obtain ⟨b, hb⟩ : ∃ b, b = UInt8.ofNat (k % 128 + 128) := ⟨_, rfl⟩
      have hbn : b.toNat = k % 128 + 128 := by rw [hb, UInt8.toNat_ofNat']; omega
      have hc1 := fun w => conv_one bytes_ty 9 Tryd.underlying9 w (128 + (k : Int) % 128) b (by omega)
      have HB := Lib.hid hb
      clear hb hbn
      go_wp2
      go_roundw
      case rel =>
        refine ⟨k / 128, c + 1, ys ++ [b], by omega, ?_, by rw [List.length_append, HL.out]; rfl, by go_num, rfl, by go_num, ?_, hbl.alloc hbl.size _⟩
        · have := HK.out
          rw [Nat.pow_succ, Nat.mul_comm (128 ^ c) 128, ← Nat.mul_assoc]
          have := Nat.mul_le_mul_right (128 ^ c) (show k / 128 * 128 ≤ k by omega)
          omega
        · rw [← HU.out, u_ge (n := k) (by omega), List.append_assoc, HB.out]; rfl
      case measure => simp [intOf]; omega
    · have hk128 : k ≤ 127 := by
        rcases (show c = 9 ∨ c < 9 by omega) with rfl | h
        · omega
        · omega
      obtain ⟨b, hb⟩ : ∃ b, b = UInt8.ofNat k := ⟨_, rfl⟩
      have hbn : b.toNat = k := by rw [hb, UInt8.toNat_ofNat']; omega
      have hc1 := fun w => conv_one bytes_ty 9 Tryd.underlying9 w (k : Int) b (by omega)
      have HB := Lib.hid hb
      clear hk hb hbn
      go_wp2
      all_goals go_ret
      all_goals
        refine ⟨?_, hbl.alloc hbl.size _⟩
        rw [← HU.out, u_lt (n := k) (by omega), ← HB.out]
        rfl

set_option maxHeartbeats 400000 in
theorem refText_any (s : ByteArray) (w : World) (hs : s.size ≤ 140737488355328) :
    Calls Tryd.prog 41 #[.string s] w (RetBelow w (.string (bs (u s.size ++ s.data.toList)))) := by
  have hul := u_len s.size (by omega)
  have e1 : bs (u s.size) ++ s = bs (u s.size ++ s.data.toList) := bs_append _ _
  have HE := Lib.hid e1
  clear e1
  go_enter Tryd.func41, Tryd.ntmps41
  go_wp2_with fail
  refine (refUint_any s.size _ (by omega)).mono ?_
  rintro e w' ⟨rfl, hb⟩
  go_wp2_with fail
  go_ret
  rw [← HE.out]
  exact ⟨rfl, hb⟩

set_option maxHeartbeats 400000 in
set_option maxRecDepth 10000 in
theorem refTakeUint_any (s : ByteArray) (w : World) (hs : s.size ≤ maxLen) :
    Calls Tryd.prog 61 #[.string s] w (Quiet w (.tuple #[.int .u64 (takeU s.data.toList).1, .string (bs (takeU s.data.toList).2.1), .int .i64 (takeU s.data.toList).2.2])) := by
  unfold maxLen at hs
  go_enter Tryd.func61, Tryd.ntmps61
  go_wp2
  go_loopw [5, 6, 7] (fun v t i wr => ∃ k acc p : Nat, k ≤ s.size ∧ k ≤ 9 ∧ acc < 128 ^ k ∧ p = 128 ^ k ∧ v = .int .u64 acc ∧ t = .int .u64 p ∧ i = .int .i64 k ∧ wr = w ∧ tk k acc (s.data.toList.drop k) = takeU s.data.toList)
    (fun _ _ i _ => s.size - (intOf i).toNat)
  case atStart => exact ⟨0, 0, 1, Nat.zero_le _, by omega, by simp, rfl, rfl, rfl, rfl, rfl, rfl⟩
  case round =>
    obtain ⟨k, acc, p, hk, hk9, hacc, hp, rfl, rfl, rfl, rfl, htk⟩ := hrel
    have HT := Lib.hid htk
    have HP := Lib.hid hp
    clear htk hp
    by_cases hlt : k < s.size
    · rw [drop_cons s k hlt] at HT
      have hc := UInt8.toNat_lt s[k]
      go_wp2
      case roundEnd =>
        have h9 : ¬ (k : Int) = 9 := by assumption
        have h1 : (128 : Int) ≤ s[k].toNat := by assumption
        refine ⟨⟨k + 1, _, _, by omega, by omega, acc_lt acc k _ hacc, rfl, by rw [acc_step2 acc k _ p hacc hk9 (by omega) HP.out], by rw [unit_step k p (by omega) HP.out], by go_num, trivial, ?_⟩, by simp [intOf]; omega⟩
        rw [← HT.out, tk_more (by omega) (by omega)]
      all_goals (try (go_quiet (fail); go_wp2))
      all_goals go_ret3
      all_goals first
        | exact Quiet.of (takeU_bad hlt HT (by omega)) ⟨0, rfl⟩
        | exact Quiet.of (takeU_last2 hlt HT (by omega) (by omega) (by omega) _ _ (acc_step2 acc k _ p hacc hk9 (by omega) HP.out) (by omega)) ⟨_, rfl⟩
        | exact Quiet.of (takeU_last2 hlt HT (by omega) (by omega) (by omega) _ _ (wrap_acc hacc (by omega) (by omega)) (by omega)) ⟨_, rfl⟩
    · go_wp2
      go_ret3
      have e : s.data.toList.drop k = [] := List.drop_eq_nil_of_le (by rw [← size_eq]; omega)
      rw [← HT.out, e]
      exact Quiet.same

theorem refTakeUint_of {v e : Nat} {r : List UInt8} (s : ByteArray) (h : takeU s.data.toList = (v, r, e)) (w : World) (hs : s.size ≤ maxLen) :
    Calls Tryd.prog 61 #[.string s] w (Quiet w (.tuple #[.int .u64 v, .string (bs r), .int .i64 e])) := by
  have := refTakeUint_any s w hs
  rw [h] at this
  exact this

set_option maxHeartbeats 400000 in
theorem refTakeMost_any (s : ByteArray) (most : Int) (w : World) (hs : s.size ≤ maxLen) (h1 : -9223372036854775808 ≤ most) (h2 : most ≤ 9223372036854775807) :
    Calls Tryd.prog 51 #[.string s, .int .i64 most] w (Quiet w (.tuple #[.int .i64 (takeMost s.data.toList most).1, .string (bs (takeMost s.data.toList most).2.1), .int .i64 (takeMost s.data.toList most).2.2])) := by
  have hp := takeU_prop s.data.toList
  unfold takeMost
  obtain ⟨v, r, er, ht⟩ : ∃ v r er, takeU s.data.toList = (v, r, er) := ⟨_, _, _, rfl⟩
  have HT := Lib.hid ht
  rw [ht] at hp ⊢
  clear ht
  obtain ⟨hv, _, he⟩ := hp
  simp only [] at hv he ⊢
  rcases he with rfl | ⟨he, rfl, rfl⟩
  · by_cases hm : (max most 0).toNat < v
    · rw [if_pos ⟨rfl, hm⟩]
      go_enter Tryd.func51, Tryd.ntmps51
      go_wp2_with fail
      refine (refTakeUint_of s HT.out _ hs).mono ?_
      rintro e w' ⟨rfl, n, rfl⟩
      go_wp2_with fail
      all_goals go_ret3
      all_goals exact ⟨rfl, _, rfl⟩
    · rw [if_neg (fun h => hm h.2)]
      have hv2 : v ≤ 9223372036854775807 := by omega
      go_enter Tryd.func51, Tryd.ntmps51
      go_wp2_with fail
      refine (refTakeUint_of s HT.out _ hs).mono ?_
      rintro e w' ⟨rfl, n, rfl⟩
      go_wp2_with fail
      all_goals go_ret3
      all_goals exact ⟨rfl, _, rfl⟩
  · rw [if_neg (fun h => by omega)]
    have hb : ((er : Int) == 0) = false := by rw [beq_eq_false_iff_ne]; omega
    clear he
    go_enter Tryd.func51, Tryd.ntmps51
    go_wp2_with fail
    refine (refTakeUint_of s HT.out _ hs).mono ?_
    rintro e w' ⟨rfl, n, rfl⟩
    go_wp2_with fail
    all_goals go_ret3
    all_goals exact ⟨rfl, _, rfl⟩

theorem refTakeMost_of {v e : Nat} {r : List UInt8} (s : ByteArray) (most : Int) (h : takeMost s.data.toList most = (v, r, e)) (w : World) (hs : s.size ≤ maxLen) (h1 : -9223372036854775808 ≤ most) (h2 : most ≤ 9223372036854775807) :
    Calls Tryd.prog 51 #[.string s, .int .i64 most] w (Quiet w (.tuple #[.int .i64 v, .string (bs r), .int .i64 e])) := by
  have := refTakeMost_any s most w hs h1 h2
  rw [h] at this
  exact this

set_option maxHeartbeats 400000 in
theorem refTakeText_any (s : ByteArray) (most : Int) (w : World) (hs : s.size ≤ maxLen) (h1 : -9223372036854775808 ≤ most) (h2 : most ≤ 9223372036854775807) :
    Calls Tryd.prog 52 #[.string s, .int .i64 most] w (Quiet w (.tuple #[.string (bs (takeText s.data.toList most).1), .string (bs (takeText s.data.toList most).2.1), .int .i64 (takeText s.data.toList most).2.2])) := by
  have hp := takeMost_prop s.data.toList most h2
  have hs' : s.data.toList.length ≤ 9223372036854775807 := hs
  unfold takeText
  obtain ⟨v, r, er, ht⟩ : ∃ v r er, takeMost s.data.toList most = (v, r, er) := ⟨_, _, _, rfl⟩
  have HT := Lib.hid ht
  rw [ht] at hp ⊢
  clear ht
  obtain ⟨hv, hr, he⟩ := hp
  simp only [] at hv he hr ⊢
  have hrs : (bs r).size = r.length := rfl
  have hrl : r.length ≤ 9223372036854775807 := Nat.le_trans hr hs'
  clear hr hs'
  rcases he with rfl | ⟨he, rfl, rfl⟩
  · rw [if_neg (by omega)]
    by_cases hm : r.length < v
    · rw [if_pos hm]
      go_enter Tryd.func52, Tryd.ntmps52
      go_wp2_with fail
      refine (refTakeMost_of s most HT.out _ hs h1 h2).mono ?_
      rintro e w' ⟨rfl, n, rfl⟩
      go_wp2_with fail
      all_goals go_ret3
      all_goals exact ⟨rfl, _, rfl⟩
    · rw [if_neg hm]
      have hle : v ≤ (bs r).size := by rw [bs_size]; omega
      go_enter Tryd.func52, Tryd.ntmps52
      go_wp2_with fail
      refine (refTakeMost_of s most HT.out _ hs h1 h2).mono ?_
      rintro e w' ⟨rfl, n, rfl⟩
      go_wp2_with fail
      go_quiet (fail)
      go_wp2_with fail
      all_goals go_ret3
      refine ⟨?_, n + nq, by rw [World.drewN_drewN]⟩
      have e1 : (bs r).extract 0 v = bs (r.take v) := bs_extract r 0 v
      have e2 : (bs r).extract v r.length = bs (r.drop v) := by rw [bs_extract, List.take_of_length_le (by rw [List.length_drop]; exact Nat.le_refl _)]
      rw [← e1, ← e2]
      rfl
  · rw [if_pos he]
    have hb : ((er : Int) == 0) = false := by rw [beq_eq_false_iff_ne]; omega
    have hb2 : ((er : Int) != 0) = true := by rw [bne_iff_ne]; omega
    clear he
    go_enter Tryd.func52, Tryd.ntmps52
    go_wp2_with fail
    refine (refTakeMost_of s most HT.out _ hs h1 h2).mono ?_
    rintro e w' ⟨rfl, n, rfl⟩
    go_wp2_with fail
    all_goals go_ret3
    all_goals exact ⟨rfl, _, rfl⟩

theorem refTakeText_of {e : Nat} {t r : List UInt8} (s : ByteArray) (most : Int) (h : takeText s.data.toList most = (t, r, e)) (w : World) (hs : s.size ≤ maxLen) (h1 : -9223372036854775808 ≤ most) (h2 : most ≤ 9223372036854775807) :
    Calls Tryd.prog 52 #[.string s, .int .i64 most] w (Quiet w (.tuple #[.string (bs t), .string (bs r), .int .i64 e])) := by
  have := refTakeText_any s most w hs h1 h2
  rw [h] at this
  exact this

end Go.Proofs.YtpjicajifdandaaDoor
