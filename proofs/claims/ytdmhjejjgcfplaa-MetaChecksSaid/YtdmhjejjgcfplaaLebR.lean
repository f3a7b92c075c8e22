/-
  Layer 1: the walks of the document's answer (barographref01): it computes what leb computes.
-/
import Derived.Test.YtdmhjejjgcfplaaLebA
namespace Go.Proofs.Ytdmhjejjgcfplaa
open Go.RowKit Go.Bar Go.Bar.Leb

set_option maxHeartbeats 400000 in
theorem cut_any (s : ByteArray) (n : Int) (w : World) (h : 0 ≤ n) (h2 : n ≤ 100000) (hs : s.size ≤ maxLen) :
    Calls Try.prog 12 #[.string s, .int .i64 n] w fun e w' => e = .returned (.string (bs (s.data.toList.take n.toNat))) ∧ w = w' := by
  unfold maxLen at hs
  have e1 : s.extract 0 n.toNat = bs (s.data.toList.take n.toNat) := bs_extract s.data.toList 0 n.toNat
  by_cases hn : n < s.size
  · have HE := Lib.hid e1
    clear e1
    go_enter Try.func12, Try.ntmps12
    go_wp2
    go_ret
    rw [← HE.out]
    exact ⟨rfl, rfl⟩
  · have e2 : bs (s.data.toList.take n.toNat) = s := by rw [List.take_of_length_le (by rw [← size_eq]; omega)]; rfl
    have HE := Lib.hid e2
    clear e1 e2
    go_enter Try.func12, Try.ntmps12
    go_wp2
    go_ret
    rw [HE.out]
    exact ⟨rfl, rfl⟩

set_option maxHeartbeats 400000 in
set_option maxRecDepth 10000 in
theorem refUint_any (n : Nat) (W : World) (hn : n < 18446744073709551616) :
    Calls Try.prog 35 #[.int .u64 n] W (RetBelow W (.string (bs (u n)))) := by
  have hul := u_len n hn
  go_enter Try.func35, Try.ntmps35
  go_wp2
  go_loopw [0, 3, 4] (fun v s i wr => ∃ (k c : Nat) (ys : List UInt8), c ≤ 9 ∧ k * 128 ^ c < 18446744073709551616 ∧ ys.length = c ∧ v = .int .u64 k ∧ s = .string (bs ys) ∧ i = .int .i64 c ∧ ys ++ u k = u n ∧ Below W.heap.size W wr) (fun _ _ i _ => 9 - (intOf i).toNat)
  case atStart => exact ⟨n, 0, [], by omega, by simpa using hn, rfl, rfl, rfl, rfl, rfl, Below.refl _ _⟩
  case round =>
    obtain ⟨k, c, ys, hc, hk, hys, rfl, rfl, rfl, hu, hbl⟩ := hrel
    have HU := Lib.hid hu
    have HL := Lib.hid hys
    have hyl : ys.length ≤ 9 := by omega
    have hk64 : k < 18446744073709551616 := by have := Nat.le_mul_of_pos_right k (show 0 < 128 ^ c from Nat.pow_pos (by omega)); omega
    clear hu hys
    by_cases hlt : c < 9 ∧ 127 < k
    · obtain ⟨hlt1, hlt2⟩ := hlt
      have HK := Lib.hid hk
      clear hk
      obtain ⟨b, hb⟩ : ∃ b, b = UInt8.ofNat (k % 128 + 128) := ⟨_, rfl⟩
      have hbn : b.toNat = k % 128 + 128 := by rw [hb, UInt8.toNat_ofNat']; omega
      have hc1 := fun w => conv_one bytes_ty 9 Try.underlying9 w (128 + (k : Int) % 128) b (by omega)
      have HB := Lib.hid hb
      clear hb hbn
      go_wp2
      go_roundw
      case rel =>
        refine ⟨k / 128, c + 1, ys ++ [b], by omega, ?_, by rw [List.length_append, HL.out]; rfl, by go_num, rfl, by go_num, ?_, hbl.alloc hbl.size _⟩
        · have := HK.out
          rw [Nat.pow_succ, Nat.mul_comm (128 ^ c) 128, ← Nat.mul_assoc]
          have := Nat.mul_le_mul_right (128 ^ c) (show k / 128 * 128 ≤ k by omega)
          omega
        · rw [← HU.out, u_ge (n := k) (by omega), List.append_assoc, HB.out]; rfl
      case measure => simp [intOf]; omega
    · have hk128 : k ≤ 127 := by
        rcases (show c = 9 ∨ c < 9 by omega) with rfl | h
        · omega
        · omega
      obtain ⟨b, hb⟩ : ∃ b, b = UInt8.ofNat k := ⟨_, rfl⟩
      have hbn : b.toNat = k := by rw [hb, UInt8.toNat_ofNat']; omega
      have hc1 := fun w => conv_one bytes_ty 9 Try.underlying9 w (k : Int) b (by omega)
      have HB := Lib.hid hb
      clear hk hb hbn
      go_wp2
      all_goals go_ret
      all_goals
        refine ⟨?_, hbl.alloc hbl.size _⟩
        rw [← HU.out, u_lt (n := k) (by omega), ← HB.out]
        rfl

set_option maxHeartbeats 400000 in
theorem refText_any (s : ByteArray) (w : World) (hs : s.size ≤ 140737488355328) :
    Calls Try.prog 34 #[.string s] w (RetBelow w (.string (bs (u s.size ++ s.data.toList)))) := by
  have hul := u_len s.size (by omega)
  have e1 : bs (u s.size) ++ s = bs (u s.size ++ s.data.toList) := bs_append _ _
  have HE := Lib.hid e1
  clear e1
  go_enter Try.func34, Try.ntmps34
  go_wp2_with fail
  refine (refUint_any s.size _ (by omega)).mono ?_
  rintro e w' ⟨rfl, hb⟩
  go_wp2_with fail
  go_ret
  rw [← HE.out]
  exact ⟨rfl, hb⟩

end Go.Proofs.Ytdmhjejjgcfplaa
