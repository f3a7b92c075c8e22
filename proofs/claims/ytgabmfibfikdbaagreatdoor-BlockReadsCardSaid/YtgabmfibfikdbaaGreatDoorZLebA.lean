/-
  Layer 1: the walks of leb's functions: what each call returns; buffers by chains of appends.
-/
import Derived.Test.YtgabmfibfikdbaaGreatDoorZMrgS
import Derived.BigQuiet
import Derived.Deep.QuietTactic
import Derived.Test.YtgabmfibfikdbaaGreatDoorZLib1
import Derived.Lib.Strings
import Derived.Test.YtgabmfibfikdbaaGreatDoorZIdtM
import Derived.Test.YtgabmfibfikdbaaGreatDoorZLib4
import Derived.Test.YtgabmfibfikdbaaGreatDoorZLib5
import Derived.Lib.Bytealg
import Derived.Test.YtgabmfibfikdbaaGreatDoorZLib3
import Derived.RegionTactic
import Derived.ChangeAlike
import Derived.Deep.RegionWith
import Derived.Deep.DeepCutAuto
import Derived.Deep.DrawnRows
import Derived.Handy

namespace Go.Proofs.YtgabmfibfikdbaaGreatDoor
open Go.RowKit Go.Bar Go.Bar.Leb

set_option maxHeartbeats 400000 in
set_option maxRecDepth 10000 in
theorem takeUint_any (s : ByteArray) (w : World) (hs : s.size ≤ maxLen) :
    Calls Tryz.prog 75 #[.string s] w (Quiet w (.tuple #[.int .u64 (takeU s.data.toList).1, .string (bs (takeU s.data.toList).2.1), .int .i64 (takeU s.data.toList).2.2])) := by
  unfold maxLen at hs
  go_enter Tryz.func75, Tryz.ntmps75
  go_wp2
  go_loopw [5, 10] (fun v i wr => ∃ k acc : Nat, k ≤ s.size ∧ k ≤ 9 ∧ acc < 128 ^ k ∧ v = .int .u64 acc ∧ i = .int .i64 k ∧ wr = w ∧ tk k acc (s.data.toList.drop k) = takeU s.data.toList)
    (fun _ i _ => s.size - (intOf i).toNat)
  case atStart => exact ⟨0, 0, Nat.zero_le _, by omega, by simp, rfl, rfl, rfl, rfl⟩
  case round =>
    obtain ⟨k, acc, hk, hk9, hacc, rfl, rfl, rfl, htk⟩ := hrel
    have HT := Lib.hid htk
    clear htk
    by_cases hlt : k < s.size
    · rw [drop_cons s k hlt] at HT
      go_wp2
      case roundEnd =>
        have h9 : ¬ (k : Int) = 9 := by assumption
        have h1 : (128 : Int) ≤ s[k].toNat := by assumption
        refine ⟨⟨k + 1, _, by omega, by omega, acc_lt acc k _ hacc, by rw [acc_step acc k _ hacc hk9 (UInt8.toNat_lt _) (by omega) _ (by simp)], by go_num, trivial, ?_⟩, by simp [intOf]; omega⟩
        rw [← HT.out, tk_more (by omega) (by omega)]
      all_goals (try (go_quiet (fail); go_wp2))
      all_goals go_ret3
      all_goals first
        | exact Quiet.of (takeU_bad hlt HT (by omega)) ⟨0, rfl⟩
        | exact Quiet.of (takeU_last hlt hk9 hacc HT (by omega) (by omega) (by omega) _ _ _ (by omega) (by first | (simp; done) | (rw [show k = 9 by omega]; rfl)) (by omega)) ⟨_, rfl⟩
    · go_wp2
      go_ret3
      have e : s.data.toList.drop k = [] := List.drop_eq_nil_of_le (by rw [← size_eq]; omega)
      rw [← HT.out, e]
      exact Quiet.same

theorem takeUint_of {v e : Nat} {r : List UInt8} (s : ByteArray) (h : takeU s.data.toList = (v, r, e)) (w : World) (hs : s.size ≤ maxLen) :
    Calls Tryz.prog 75 #[.string s] w (Quiet w (.tuple #[.int .u64 v, .string (bs r), .int .i64 e])) := by
  have := takeUint_any s w hs
  rw [h] at this
  exact this

theorem bytes_ty : ByteTy Tryz.prog 96 5 :=
  ⟨Tryz.underlying96, Tryz.underlying5, info_parts (show (Tryz.prog.info? 5).map (fun i => (i.zero, i.size, i.bytes)) = some (some (.int .u8 0), 1, 1) by kernel_rfl)⟩

set_option maxHeartbeats 400000 in
set_option maxRecDepth 10000 in
theorem uint_any (V : Value) (xs : List UInt8) (n : Nat) (W : World) (hn : n < 18446744073709551616) (hx : xs.length + 10 ≤ 140737488355328) (hb : BBuf W 5 V xs) :
    Calls Tryz.prog 48 #[V, .int .u64 n] W (RetB W V 5 xs (u n)) := by
  have hul := u_len n hn
  go_enter Tryz.func48, Tryz.ntmps48
  go_wp2
  go_loopw [0, 1] (fun b m wr => ∃ (k : Nat) (ys : List UInt8), k < 18446744073709551616 ∧ m = .int .u64 k ∧ BApp W V 5 xs wr b ys ∧ ys ++ u k = u n) (fun _ m _ => (intOf m).toNat)
  case atStart => exact ⟨n, [], hn, rfl, BApp.start' hb, rfl⟩
  case round =>
    obtain ⟨k, ys, hk, rfl, happ, hys⟩ := hrel
    have HY := Lib.hid hys
    have hyl : ys.length + (u k).length ≤ 10 := by rw [← List.length_append, hys]; exact hul
    have hup := u_pos k
    clear hys
    by_cases hlt : 127 < k
    · go_wp2_with (at_builtin; refine wpList_append_byte rfl (.tmp 9) (.tmp 13) 96 rfl bytes_ty _ (byte_hi k) rfl happ rfl (by omega) ?_; intro v' w' happ'; clear happ)
      go_roundw
      case rel => exact ⟨k / 128, _, by omega, by go_num, happ', by rw [← HY.out, u_ge (n := k) (by omega), List.append_assoc]; rfl⟩
      case measure => simp [intOf]; omega
    · go_wp2_with (at_builtin; refine wpList_append_byte rfl (.tmp 15) (.tmp 18) 96 rfl bytes_ty _ (byte_lo k (by omega)) rfl happ rfl (by omega) ?_; intro v' w' happ'; clear happ)
      go_ret
      exact ⟨v', rfl, by rw [← HY.out, u_lt (by omega)]; exact happ'⟩

set_option maxHeartbeats 400000 in
theorem text_any (V : Value) (xs : List UInt8) (s : ByteArray) (W : World) (hs : s.size ≤ maxLen) (hx : xs.length + 10 + s.size ≤ 140737488355328) (hb : BBuf W 5 V xs) :
    Calls Tryz.prog 91 #[V, .string s] W (RetB W V 5 xs (u s.size ++ s.data.toList)) := by
  unfold maxLen at hs
  have hul := u_len s.size (by omega)
  go_enter Tryz.func91, Tryz.ntmps91
  go_wp2_with fail
  refine (uint_any V xs s.size _ (by omega) (by omega) hb).mono ?_
  rintro e w' ⟨v', rfl, happ⟩
  go_wp2_with (at_builtin; refine wpList_append_str rfl (.tmp 9) (.tmp 10) 96 9 rfl bytes_ty Tryz.underlying9 s rfl happ rfl (by omega) ?_; intro v2 w2 happ2)
  go_ret
  exact ⟨v2, rfl, happ2⟩

set_option maxHeartbeats 400000 in
theorem takeMost_any (s : ByteArray) (most : Int) (w : World) (hs : s.size ≤ maxLen) (h1 : -9223372036854775808 ≤ most) (h2 : most ≤ 9223372036854775807) :
    Calls Tryz.prog 36 #[.string s, .int .i64 most] w (Quiet w (.tuple #[.int .i64 (takeMost s.data.toList most).1, .string (bs (takeMost s.data.toList most).2.1), .int .i64 (takeMost s.data.toList most).2.2])) := by
  have hp := takeU_prop s.data.toList
  unfold takeMost
  obtain ⟨v, r, er, ht⟩ : ∃ v r er, takeU s.data.toList = (v, r, er) := ⟨_, _, _, rfl⟩
  have HT := Lib.hid ht
  rw [ht] at hp ⊢
  clear ht
  obtain ⟨hv, _, he⟩ := hp
  simp only [] at hv he ⊢
  rcases he with rfl | ⟨he, rfl, rfl⟩
  · by_cases hm : (max most 0).toNat < v
    · rw [if_pos ⟨rfl, hm⟩]
      go_enter Tryz.func36, Tryz.ntmps36
      go_wp2_with fail
      refine (takeUint_of s HT.out _ hs).mono ?_
      rintro e w' ⟨rfl, n, rfl⟩
      go_wp2_with fail
      all_goals go_ret3
      all_goals exact ⟨rfl, _, rfl⟩
    · rw [if_neg (fun h => hm h.2)]
      have hv2 : v ≤ 9223372036854775807 := by omega
      go_enter Tryz.func36, Tryz.ntmps36
      go_wp2_with fail
      refine (takeUint_of s HT.out _ hs).mono ?_
      rintro e w' ⟨rfl, n, rfl⟩
      go_wp2_with fail
      all_goals go_ret3
      all_goals exact ⟨rfl, _, rfl⟩
  · rw [if_neg (fun h => by omega)]
    have hb : ((er : Int) == 0) = false := by rw [beq_eq_false_iff_ne]; omega
    clear he
    go_enter Tryz.func36, Tryz.ntmps36
    go_wp2_with fail
    refine (takeUint_of s HT.out _ hs).mono ?_
    rintro e w' ⟨rfl, n, rfl⟩
    go_wp2_with fail
    all_goals go_ret3
    all_goals exact ⟨rfl, _, rfl⟩

theorem takeMost_of {v e : Nat} {r : List UInt8} (s : ByteArray) (most : Int) (h : takeMost s.data.toList most = (v, r, e)) (w : World) (hs : s.size ≤ maxLen) (h1 : -9223372036854775808 ≤ most) (h2 : most ≤ 9223372036854775807) :
    Calls Tryz.prog 36 #[.string s, .int .i64 most] w (Quiet w (.tuple #[.int .i64 v, .string (bs r), .int .i64 e])) := by
  have := takeMost_any s most w hs h1 h2
  rw [h] at this
  exact this

set_option maxHeartbeats 400000 in
theorem takeText_any (s : ByteArray) (most : Int) (w : World) (hs : s.size ≤ maxLen) (h1 : -9223372036854775808 ≤ most) (h2 : most ≤ 9223372036854775807) :
    Calls Tryz.prog 100 #[.string s, .int .i64 most] w (Quiet w (.tuple #[.string (bs (takeText s.data.toList most).1), .string (bs (takeText s.data.toList most).2.1), .int .i64 (takeText s.data.toList most).2.2])) := by
  have hp := takeMost_prop s.data.toList most h2
  have hs' : s.data.toList.length ≤ 9223372036854775807 := hs
  unfold takeText
  obtain ⟨v, r, er, ht⟩ : ∃ v r er, takeMost s.data.toList most = (v, r, er) := ⟨_, _, _, rfl⟩
  have HT := Lib.hid ht
  rw [ht] at hp ⊢
  clear ht
  obtain ⟨hv, hr, he⟩ := hp
  simp only [] at hv he hr ⊢
  have hrs : (bs r).size = r.length := rfl
  have hrl : r.length ≤ 9223372036854775807 := Nat.le_trans hr hs'
  clear hr hs'
  rcases he with rfl | ⟨he, rfl, rfl⟩
  · rw [if_neg (by omega)]
    by_cases hm : r.length < v
    · rw [if_pos hm]
      go_enter Tryz.func100, Tryz.ntmps100
      go_wp2_with fail
      refine (takeMost_of s most HT.out _ hs h1 h2).mono ?_
      rintro e w' ⟨rfl, n, rfl⟩
      go_wp2_with fail
      all_goals go_ret3
      all_goals exact ⟨rfl, _, rfl⟩
    · rw [if_neg hm]
      have hle : v ≤ (bs r).size := by rw [bs_size]; omega
      go_enter Tryz.func100, Tryz.ntmps100
      go_wp2_with fail
      refine (takeMost_of s most HT.out _ hs h1 h2).mono ?_
      rintro e w' ⟨rfl, n, rfl⟩
      go_wp2_with fail
      go_quiet (fail)
      go_wp2_with fail
      all_goals go_ret3
      refine ⟨?_, n + nq, by rw [World.drewN_drewN]⟩
      have e1 : (bs r).extract 0 v = bs (r.take v) := bs_extract r 0 v
      have e2 : (bs r).extract v r.length = bs (r.drop v) := by rw [bs_extract, List.take_of_length_le (by rw [List.length_drop]; exact Nat.le_refl _)]
      rw [← e1, ← e2]
      rfl
  · rw [if_pos he]
    have hb : ((er : Int) == 0) = false := by rw [beq_eq_false_iff_ne]; omega
    have hb2 : ((er : Int) != 0) = true := by rw [bne_iff_ne]; omega
    clear he
    go_enter Tryz.func100, Tryz.ntmps100
    go_wp2_with fail
    refine (takeMost_of s most HT.out _ hs h1 h2).mono ?_
    rintro e w' ⟨rfl, n, rfl⟩
    go_wp2_with fail
    all_goals go_ret3
    all_goals exact ⟨rfl, _, rfl⟩

theorem takeText_of {e : Nat} {t r : List UInt8} (s : ByteArray) (most : Int) (h : takeText s.data.toList most = (t, r, e)) (w : World) (hs : s.size ≤ maxLen) (h1 : -9223372036854775808 ≤ most) (h2 : most ≤ 9223372036854775807) :
    Calls Tryz.prog 100 #[.string s, .int .i64 most] w (Quiet w (.tuple #[.string (bs t), .string (bs r), .int .i64 e])) := by
  have := takeText_any s most w hs h1 h2
  rw [h] at this
  exact this

set_option maxHeartbeats 400000 in
theorem takeByte_none (s : ByteArray) (w : World) (h0 : s.data.toList = []) :
    Calls Tryz.prog 73 #[.string s] w (Quiet w (.tuple #[.int .u8 0, .string (bs []), .int .i64 2])) := by
  obtain rfl : s = bs [] := by rw [← bs_eta s, h0]
  clear h0
  have he : (bs []).toList.isEmpty = true := bs_isEmpty []
  go_enter Tryz.func73, Tryz.ntmps73
  go_wp2_with fail
  all_goals go_ret3
  all_goals exact ⟨rfl, 0, rfl⟩

set_option maxHeartbeats 400000 in
theorem takeByte_some (s : ByteArray) (w : World) (c : UInt8) (r : List UInt8) (hs : s.size ≤ maxLen) (h0 : s.data.toList = c :: r) :
    Calls Tryz.prog 73 #[.string s] w (Quiet w (.tuple #[.int .u8 c.toNat, .string (bs r), .int .i64 0])) := by
  obtain rfl : s = bs (c :: r) := by rw [← bs_eta s, h0]
  unfold maxLen at hs
  clear h0
  have hsz : (bs (c :: r)).size = r.length + 1 := rfl
  have he : (bs (c :: r)).toList.isEmpty = false := bs_isEmpty _
  go_enter Tryz.func73, Tryz.ntmps73
  go_wp2_with fail
  go_quiet (fail)
  go_wp2_with fail
  go_ret3
  refine ⟨?_, _, rfl⟩
  have e2 : (bs (c :: r)).extract 1 (r.length + 1) = bs r := by
    rw [bs_extract]
    simp
  rw [← e2]
  rfl

end Go.Proofs.YtgabmfibfikdbaaGreatDoor

/-
  The laws' Cut: the first n bytes of a string.
-/
namespace Go.Proofs.YtgabmfibfikdbaaGreatDoor
open Go.RowKit Go.Bar

set_option maxHeartbeats 400000 in
theorem cut_any (s : ByteArray) (n : Int) (w : World) (h : 0 ≤ n) (h2 : n ≤ 100000) (hs : s.size ≤ maxLen) :
    Calls Tryz.prog 9 #[.string s, .int .i64 n] w fun e w' => e = .returned (.string (bs (s.data.toList.take n.toNat))) ∧ w = w' := by
  unfold maxLen at hs
  have e1 : s.extract 0 n.toNat = bs (s.data.toList.take n.toNat) := bs_extract s.data.toList 0 n.toNat
  by_cases hn : n < s.size
  · have HE := Lib.hid e1
    clear e1
    go_enter Tryz.func9, Tryz.ntmps9
    go_wp2
    go_ret
    rw [← HE.out]
    exact ⟨rfl, rfl⟩
  · have e2 : bs (s.data.toList.take n.toNat) = s := by rw [List.take_of_length_le (by rw [← size_eq]; omega)]; rfl
    have HE := Lib.hid e2
    clear e1 e2
    go_enter Tryz.func9, Tryz.ntmps9
    go_wp2
    go_ret
    rw [HE.out]
    exact ⟨rfl, rfl⟩

end Go.Proofs.YtgabmfibfikdbaaGreatDoor

/-
  Layer 1: the walks of the document's answer (barographref01): it computes what leb computes.
-/
namespace Go.Proofs.YtgabmfibfikdbaaGreatDoor
open Go.RowKit Go.Bar Go.Bar.Leb

set_option maxHeartbeats 400000 in
set_option maxRecDepth 10000 in
theorem refUint_any (n : Nat) (W : World) (hn : n < 18446744073709551616) :
    Calls Tryz.prog 51 #[.int .u64 n] W (RetBelow W (.string (bs (u n)))) := by
  have hul := u_len n hn
  go_enter Tryz.func51, Tryz.ntmps51
  go_wp2
  go_loopw [0, 3, 4] (fun v s i wr => ∃ (k c : Nat) (ys : List UInt8), c ≤ 9 ∧ k * 128 ^ c < 18446744073709551616 ∧ ys.length = c ∧ v = .int .u64 k ∧ s = .string (bs ys) ∧ i = .int .i64 c ∧ ys ++ u k = u n ∧ Below W.heap.size W wr) (fun _ _ i _ => 9 - (intOf i).toNat)
  case atStart => exact ⟨n, 0, [], by omega, by simpa using hn, rfl, rfl, rfl, rfl, rfl, Below.refl _ _⟩
  case round =>
    obtain ⟨k, c, ys, hc, hk, hys, rfl, rfl, rfl, hu, hbl⟩ := hrel
    have HU := Lib.hid hu
    have HL := Lib.hid hys
    have hyl : ys.length ≤ 9 := by omega
    have hk64 : k < 18446744073709551616 := by have := Nat.le_mul_of_pos_right k (show 0 < 128 ^ c from Nat.pow_pos (by omega)); omega
    clear hu hys
    by_cases hlt : c < 9 ∧ 127 < k
    · obtain ⟨hlt1, hlt2⟩ := hlt
      have HK := Lib.hid hk
      clear hk
      obtain ⟨b, hb⟩ : ∃ b, b = UInt8.ofNat (k % 128 + 128) := ⟨_, rfl⟩
      have hbn : b.toNat = k % 128 + 128 := by rw [hb, UInt8.toNat_ofNat']; omega
      have hc1 := fun w => conv_one bytes_ty 9 Tryz.underlying9 w (128 + (k : Int) % 128) b (by omega)
      have HB := Lib.hid hb
      clear hb hbn
      go_wp2
      go_roundw
      case rel =>
        refine ⟨k / 128, c + 1, ys ++ [b], by omega, ?_, by rw [List.length_append, HL.out]; rfl, by go_num, rfl, by go_num, ?_, hbl.alloc hbl.size _⟩
        · have := HK.out
          rw [Nat.pow_succ, Nat.mul_comm (128 ^ c) 128, ← Nat.mul_assoc]
          have := Nat.mul_le_mul_right (128 ^ c) (show k / 128 * 128 ≤ k by omega)
          omega
        · rw [← HU.out, u_ge (n := k) (by omega), List.append_assoc, HB.out]; rfl
      case measure => simp [intOf]; omega
    · have hk128 : k ≤ 127 := by
        rcases (show c = 9 ∨ c < 9 by omega) with rfl | h
        · omega
        · omega
      obtain ⟨b, hb⟩ : ∃ b, b = UInt8.ofNat k := ⟨_, rfl⟩
      have hbn : b.toNat = k := by rw [hb, UInt8.toNat_ofNat']; omega
      have hc1 := fun w => conv_one bytes_ty 9 Tryz.underlying9 w (k : Int) b (by omega)
      have HB := Lib.hid hb
      clear hk hb hbn
      go_wp2
      all_goals go_ret
      all_goals
        refine ⟨?_, hbl.alloc hbl.size _⟩
        rw [← HU.out, u_lt (n := k) (by omega), ← HB.out]
        rfl

set_option maxHeartbeats 400000 in
theorem refFold_any (v : Int) (w : World) (h1 : -9223372036854775808 ≤ v) (h2 : v ≤ 9223372036854775807) :
    Calls Tryz.prog 146 #[.int .i64 v] w fun e w' => e = .returned (.int .u64 (fold v)) ∧ w = w' := by
  have hf := fold_lt v h1 h2
  by_cases h : v < 0
  · have e1 : ((fold v : Nat) : Int) = 2 * (-(v + 1)) + 1 := by unfold fold; rw [if_pos h]; omega
    have HE := Lib.hid e1
    clear e1
    go_enter Tryz.func146, Tryz.ntmps146
    go_wp2
    go_ret
    rw [HE.out]
    exact ⟨rfl, rfl⟩
  · have e1 : ((fold v : Nat) : Int) = 2 * v := by unfold fold; rw [if_neg h]; omega
    have HE := Lib.hid e1
    clear e1
    go_enter Tryz.func146, Tryz.ntmps146
    go_wp2
    go_ret
    rw [HE.out]
    exact ⟨rfl, rfl⟩

set_option maxHeartbeats 400000 in
theorem refText_any (s : ByteArray) (w : World) (hs : s.size ≤ 140737488355328) :
    Calls Tryz.prog 92 #[.string s] w (RetBelow w (.string (bs (u s.size ++ s.data.toList)))) := by
  have hul := u_len s.size (by omega)
  have e1 : bs (u s.size) ++ s = bs (u s.size ++ s.data.toList) := bs_append _ _
  have HE := Lib.hid e1
  clear e1
  go_enter Tryz.func92, Tryz.ntmps92
  go_wp2_with fail
  refine (refUint_any s.size _ (by omega)).mono ?_
  rintro e w' ⟨rfl, hb⟩
  go_wp2_with fail
  go_ret
  rw [← HE.out]
  exact ⟨rfl, hb⟩

set_option maxHeartbeats 400000 in
set_option maxRecDepth 10000 in
theorem refTakeUint_any (s : ByteArray) (w : World) (hs : s.size ≤ maxLen) :
    Calls Tryz.prog 80 #[.string s] w (Quiet w (.tuple #[.int .u64 (takeU s.data.toList).1, .string (bs (takeU s.data.toList).2.1), .int .i64 (takeU s.data.toList).2.2])) := by
  unfold maxLen at hs
  go_enter Tryz.func80, Tryz.ntmps80
  go_wp2
  go_loopw [5, 6, 7] (fun v t i wr => ∃ k acc p : Nat, k ≤ s.size ∧ k ≤ 9 ∧ acc < 128 ^ k ∧ p = 128 ^ k ∧ v = .int .u64 acc ∧ t = .int .u64 p ∧ i = .int .i64 k ∧ wr = w ∧ tk k acc (s.data.toList.drop k) = takeU s.data.toList)
    (fun _ _ i _ => s.size - (intOf i).toNat)
  case atStart => exact ⟨0, 0, 1, Nat.zero_le _, by omega, by simp, rfl, rfl, rfl, rfl, rfl, rfl⟩
  case round =>
    obtain ⟨k, acc, p, hk, hk9, hacc, hp, rfl, rfl, rfl, rfl, htk⟩ := hrel
    have HT := Lib.hid htk
    have HP := Lib.hid hp
    clear htk hp
    by_cases hlt : k < s.size
    · rw [drop_cons s k hlt] at HT
      have hc := UInt8.toNat_lt s[k]
      go_wp2
      case roundEnd =>
        have h9 : ¬ (k : Int) = 9 := by assumption
        have h1 : (128 : Int) ≤ s[k].toNat := by assumption
        refine ⟨⟨k + 1, _, _, by omega, by omega, acc_lt acc k _ hacc, rfl, by rw [acc_step2 acc k _ p hacc hk9 (by omega) HP.out], by rw [unit_step k p (by omega) HP.out], by go_num, trivial, ?_⟩, by simp [intOf]; omega⟩
        rw [← HT.out, tk_more (by omega) (by omega)]
      all_goals (try (go_quiet (fail); go_wp2))
      all_goals go_ret3
      all_goals first
        | exact Quiet.of (takeU_bad hlt HT (by omega)) ⟨0, rfl⟩
        | exact Quiet.of (takeU_last2 hlt HT (by omega) (by omega) (by omega) _ _ (acc_step2 acc k _ p hacc hk9 (by omega) HP.out) (by omega)) ⟨_, rfl⟩
        | exact Quiet.of (takeU_last2 hlt HT (by omega) (by omega) (by omega) _ _ (wrap_acc hacc (by omega) (by omega)) (by omega)) ⟨_, rfl⟩
    · go_wp2
      go_ret3
      have e : s.data.toList.drop k = [] := List.drop_eq_nil_of_le (by rw [← size_eq]; omega)
      rw [← HT.out, e]
      exact Quiet.same

theorem refTakeUint_of {v e : Nat} {r : List UInt8} (s : ByteArray) (h : takeU s.data.toList = (v, r, e)) (w : World) (hs : s.size ≤ maxLen) :
    Calls Tryz.prog 80 #[.string s] w (Quiet w (.tuple #[.int .u64 v, .string (bs r), .int .i64 e])) := by
  have := refTakeUint_any s w hs
  rw [h] at this
  exact this

set_option maxHeartbeats 400000 in
theorem refTakeMost_any (s : ByteArray) (most : Int) (w : World) (hs : s.size ≤ maxLen) (h1 : -9223372036854775808 ≤ most) (h2 : most ≤ 9223372036854775807) :
    Calls Tryz.prog 40 #[.string s, .int .i64 most] w (Quiet w (.tuple #[.int .i64 (takeMost s.data.toList most).1, .string (bs (takeMost s.data.toList most).2.1), .int .i64 (takeMost s.data.toList most).2.2])) := by
  have hp := takeU_prop s.data.toList
  unfold takeMost
  obtain ⟨v, r, er, ht⟩ : ∃ v r er, takeU s.data.toList = (v, r, er) := ⟨_, _, _, rfl⟩
  have HT := Lib.hid ht
  rw [ht] at hp ⊢
  clear ht
  obtain ⟨hv, _, he⟩ := hp
  simp only [] at hv he ⊢
  rcases he with rfl | ⟨he, rfl, rfl⟩
  · by_cases hm : (max most 0).toNat < v
    · rw [if_pos ⟨rfl, hm⟩]
      go_enter Tryz.func40, Tryz.ntmps40
      go_wp2_with fail
      refine (refTakeUint_of s HT.out _ hs).mono ?_
      rintro e w' ⟨rfl, n, rfl⟩
      go_wp2_with fail
      all_goals go_ret3
      all_goals exact ⟨rfl, _, rfl⟩
    · rw [if_neg (fun h => hm h.2)]
      have hv2 : v ≤ 9223372036854775807 := by omega
      go_enter Tryz.func40, Tryz.ntmps40
      go_wp2_with fail
      refine (refTakeUint_of s HT.out _ hs).mono ?_
      rintro e w' ⟨rfl, n, rfl⟩
      go_wp2_with fail
      all_goals go_ret3
      all_goals exact ⟨rfl, _, rfl⟩
  · rw [if_neg (fun h => by omega)]
    have hb : ((er : Int) == 0) = false := by rw [beq_eq_false_iff_ne]; omega
    clear he
    go_enter Tryz.func40, Tryz.ntmps40
    go_wp2_with fail
    refine (refTakeUint_of s HT.out _ hs).mono ?_
    rintro e w' ⟨rfl, n, rfl⟩
    go_wp2_with fail
    all_goals go_ret3
    all_goals exact ⟨rfl, _, rfl⟩

theorem refTakeMost_of {v e : Nat} {r : List UInt8} (s : ByteArray) (most : Int) (h : takeMost s.data.toList most = (v, r, e)) (w : World) (hs : s.size ≤ maxLen) (h1 : -9223372036854775808 ≤ most) (h2 : most ≤ 9223372036854775807) :
    Calls Tryz.prog 40 #[.string s, .int .i64 most] w (Quiet w (.tuple #[.int .i64 v, .string (bs r), .int .i64 e])) := by
  have := refTakeMost_any s most w hs h1 h2
  rw [h] at this
  exact this

set_option maxHeartbeats 400000 in
theorem refTakeText_any (s : ByteArray) (most : Int) (w : World) (hs : s.size ≤ maxLen) (h1 : -9223372036854775808 ≤ most) (h2 : most ≤ 9223372036854775807) :
    Calls Tryz.prog 102 #[.string s, .int .i64 most] w (Quiet w (.tuple #[.string (bs (takeText s.data.toList most).1), .string (bs (takeText s.data.toList most).2.1), .int .i64 (takeText s.data.toList most).2.2])) := by
  have hp := takeMost_prop s.data.toList most h2
  have hs' : s.data.toList.length ≤ 9223372036854775807 := hs
  unfold takeText
  obtain ⟨v, r, er, ht⟩ : ∃ v r er, takeMost s.data.toList most = (v, r, er) := ⟨_, _, _, rfl⟩
  have HT := Lib.hid ht
  rw [ht] at hp ⊢
  clear ht
  obtain ⟨hv, hr, he⟩ := hp
  simp only [] at hv he hr ⊢
  have hrs : (bs r).size = r.length := rfl
  have hrl : r.length ≤ 9223372036854775807 := Nat.le_trans hr hs'
  clear hr hs'
  rcases he with rfl | ⟨he, rfl, rfl⟩
  · rw [if_neg (by omega)]
    by_cases hm : r.length < v
    · rw [if_pos hm]
      go_enter Tryz.func102, Tryz.ntmps102
      go_wp2_with fail
      refine (refTakeMost_of s most HT.out _ hs h1 h2).mono ?_
      rintro e w' ⟨rfl, n, rfl⟩
      go_wp2_with fail
      all_goals go_ret3
      all_goals exact ⟨rfl, _, rfl⟩
    · rw [if_neg hm]
      have hle : v ≤ (bs r).size := by rw [bs_size]; omega
      go_enter Tryz.func102, Tryz.ntmps102
      go_wp2_with fail
      refine (refTakeMost_of s most HT.out _ hs h1 h2).mono ?_
      rintro e w' ⟨rfl, n, rfl⟩
      go_wp2_with fail
      go_quiet (fail)
      go_wp2_with fail
      all_goals go_ret3
      refine ⟨?_, n + nq, by rw [World.drewN_drewN]⟩
      have e1 : (bs r).extract 0 v = bs (r.take v) := bs_extract r 0 v
      have e2 : (bs r).extract v r.length = bs (r.drop v) := by rw [bs_extract, List.take_of_length_le (by rw [List.length_drop]; exact Nat.le_refl _)]
      rw [← e1, ← e2]
      rfl
  · rw [if_pos he]
    have hb : ((er : Int) == 0) = false := by rw [beq_eq_false_iff_ne]; omega
    have hb2 : ((er : Int) != 0) = true := by rw [bne_iff_ne]; omega
    clear he
    go_enter Tryz.func102, Tryz.ntmps102
    go_wp2_with fail
    refine (refTakeMost_of s most HT.out _ hs h1 h2).mono ?_
    rintro e w' ⟨rfl, n, rfl⟩
    go_wp2_with fail
    all_goals go_ret3
    all_goals exact ⟨rfl, _, rfl⟩

theorem refTakeText_of {e : Nat} {t r : List UInt8} (s : ByteArray) (most : Int) (h : takeText s.data.toList most = (t, r, e)) (w : World) (hs : s.size ≤ maxLen) (h1 : -9223372036854775808 ≤ most) (h2 : most ≤ 9223372036854775807) :
    Calls Tryz.prog 102 #[.string s, .int .i64 most] w (Quiet w (.tuple #[.string (bs t), .string (bs r), .int .i64 e])) := by
  have := refTakeText_any s most w hs h1 h2
  rw [h] at this
  exact this

end Go.Proofs.YtgabmfibfikdbaaGreatDoor

/-
  Layer 8: the walks of ident's functions.
-/
namespace Go.Proofs.YtgabmfibfikdbaaGreatDoor
open Go.RowKit Go.Bar Go.Bar.Idt

set_option maxHeartbeats 1000000 in
set_option maxRecDepth 100000 in
theorem slIndexByte_any (s : ByteArray) (c : UInt8) (w : World) :
    Calls Tryz.prog 154 #[.string s, .int .u8 c.toNat] w fun e w' => e = .returned (.int .i64 (Lib.indexByte s.data.toList c)) ∧ w = w' := by
  go_enter Tryz.func154, Tryz.ntmps154
  go_wp2
  rw [run_callFunc_extern Tryz.func169 (by kernel_rfl) (by kernel_rfl) (by kernel_rfl) (e := Extern.BytealgIndexByte.indexByte) (by kernel_rfl), Lib.run_indexByteString]
  simp only [Result.andThen]
  rw [Oper.upon_value]
  go_wp2
  go_ret
  exact ⟨by simp, rfl⟩

set_option maxHeartbeats 400000 in
theorem indexByte_any (s : ByteArray) (c : UInt8) (w : World) :
    Calls Tryz.prog 142 #[.string s, .int .u8 c.toNat] w fun e w' => e = .returned (.int .i64 (Lib.indexByte s.data.toList c)) ∧ w = w' := by
  go_enter Tryz.func142, Tryz.ntmps142
  go_wp2_with fail
  refine (slIndexByte_any s c _).mono ?_
  rintro e w' ⟨rfl, rfl⟩
  go_wp2_with fail
  go_ret
  exact ⟨rfl, rfl⟩

theorem sgn_get (k : Nat) (h : k < (bs signs).size) : (bs signs)[k]'h = sgn k := by
  unfold sgn
  rw [List.getD_eq_getElem?_getD, List.getElem?_eq_getElem h]
  rfl
theorem and31 (n : Nat) (h : n < 9223372036854775808) : bits .and .i64 (n : Int) 31 = ((n % 32 : Nat) : Int) := by
  have := i64_and_nat n 31 h (by omega)
  rw [show n &&& 31 = n % 2 ^ 5 from Nat.and_two_pow_sub_one_eq_mod n 5] at this
  exact this
theorem bcs_set (l : List UInt8) (i : Nat) (c : UInt8) : bcs (l.set i c) = (bcs l).set i (.int .u8 (c.toNat : Int)) := List.map_set

set_option maxHeartbeats 1000000 in
set_option maxRecDepth 10000 in
theorem digits_any (n : Nat) (w : World) (hn : n < 1099511627776) :
    Calls Tryz.prog 69 #[.int .i64 n] w (RetBelow w (.string (bs (dg 8 n)))) := by
  go_enter Tryz.func69, Tryz.ntmps69
  go_wp2_with fail
  go_loopw [0, 4] (fun m i wr => ∃ (q k : Nat) (l : List UInt8), q ≤ 8 ∧ (q = 0 ∧ i = .int .i64 (-1) ∨ ∃ p, q = p + 1 ∧ i = .int .i64 (p : Int)) ∧ m = .int .i64 k ∧ k < 1099511627776 ∧ l.length = 8 ∧ Buf wr 195 1 (.slice (some ⟨w.heap.size, 0, none⟩) 8 8) 8 (bcs l) ∧ Below w.heap.size w wr ∧ Hid (k = n / 32 ^ (8 - q) ∧ l.drop q = dg (8 - q) n))
    (fun _ i _ => (intOf i + 1).toNat)
  case atStart => exact ⟨8, n, List.replicate 8 0, Nat.le_refl _, .inr ⟨7, rfl, rfl⟩, rfl, hn, rfl, Buf.lit w _ 1 8 [.int .u8 0, .int .u8 0, .int .u8 0, .int .u8 0, .int .u8 0, .int .u8 0, .int .u8 0, .int .u8 0] rfl (by decide), (Below.refl _ _).alloc (Nat.le_refl _) _, (by simp : n = n / 32 ^ 0), rfl⟩
  case round =>
    obtain ⟨q, k, l, hq, hi, rfl, hk, hll, hb, hbl, HK⟩ := hrel
    rcases hi with ⟨rfl, rfl⟩ | ⟨p, rfl, rfl⟩
    · have hl : l = dg 8 n := HK.out.2
      have hsl : SlAt wr 1 (.slice (some ⟨w.heap.size, 0, none⟩) l.length 8) l.length (bcs l) := by rw [hll]; exact SlAt.of_buf hb
      have hcv := hsl.string bytes_ty 9 Tryz.underlying9
      rw [hll] at hcv
      have HL := Lib.hid hl
      clear hsl hl hb
      go_wp2_with fail
      go_ret
      rw [← HL.out]
      exact ⟨rfl, hbl⟩
    · have hand := and31 k (by omega)
      have h32 : k % 32 < (bs signs).size := by rw [bs_size, signs_length]; omega
      have hst := Buf.store hb (j := p) (by omega) (.int .u8 (((bs signs)[k % 32]'h32).toNat : Int))
      obtain ⟨hc1, hc2⟩ := hb.cellAt (j := p) (by omega)
      rw [Nat.zero_add] at hst hc1 hc2
      rw [List.getElem?_eq_getElem (by rw [bcs_length]; omega)] at hc1
      have H32 := Lib.hid h32
      have HST := Lib.hid hst
      clear hb hst
      go_wp2_with fail
      go_roundw
      case rel =>
        refine ⟨p, k / 32, l.set p (sgn (k % 32)), by omega, ?_, by go_num, by omega, by rw [List.length_set]; exact hll, by rw [bcs_set, ← sgn_get _ H32.out]; exact HST.out, hbl.setCell (by simp) _, ?_, ?_⟩
        · rcases p with _ | p
          · exact .inl ⟨rfl, rfl⟩
          · exact .inr ⟨p, rfl, by go_num⟩
        · show k / 32 = n / 32 ^ (8 - p)
          have e8 : 8 - p = (8 - (p + 1)) + 1 := by omega
          rw [HK.out.1, Nat.div_div_eq_div_mul, ← Nat.pow_succ, e8]
        · show (l.set p (sgn (k % 32))).drop p = dg (8 - p) n
          have e8 : 8 - p = (8 - (p + 1)) + 1 := by omega
          have e9 := List.drop_eq_getElem_cons (l := l.set p (sgn (k % 32))) (i := p) (by rw [List.length_set]; omega)
          rw [e8, dg_cons, ← HK.out.2, ← HK.out.1, e9, List.getElem_set_self, List.drop_set_of_lt (by omega)]
      case measure => simp [intOf]

def numV : Option Nat → Value
  | some v => .tuple #[.int .i64 (v : Int), .bool true]
  | none => .tuple #[.int .i64 0, .bool false]
theorem or_low (a k : Nat) (hk : k < 32) (ha : a < 34359738368) : bits .or .i64 ((a : Int) * 32) (k : Int) = ((32 * a + k : Nat) : Int) := by
  have h1 := i64_or_nat (a * 32) k (by omega) (by omega)
  rw [show (((a * 32 : Nat)) : Int) = (a : Int) * 32 by omega] at h1
  rw [h1]
  have h2 := Nat.two_pow_add_eq_or_of_lt (i := 5) (show k < 2 ^ 5 by omega) a
  rw [show a * 32 = 2 ^ 5 * a by omega, ← h2]

set_option maxHeartbeats 1000000 in
set_option maxRecDepth 10000 in
theorem number_any (l : List UInt8) (w : World) (hl : l.length ≤ 8) :
    Calls Tryz.prog 119 #[.string (bs l)] w fun e w' => e = .returned (numV (num 0 l)) ∧ w = w' := by
  go_enter Tryz.func119, Tryz.ntmps119
  go_wp2_with fail
  go_loop [4, 9] (fun a i => ∃ k m : Nat, k ≤ l.length ∧ i = .int .i64 k ∧ a = .int .i64 m ∧ m < 32 ^ k ∧ Hid (num m (l.drop k) = num 0 l)) (fun _ i => l.length - (intOf i).toNat)
  case atStart => exact ⟨0, 0, Nat.zero_le _, rfl, rfl, by simp, rfl⟩
  case round =>
    obtain ⟨k, m, hk, rfl, rfl, hm, hnum⟩ := hrel
    by_cases hgo : k < l.length
    · have hm35 : m < 34359738368 := Nat.lt_of_lt_of_le hm (Nat.pow_le_pow_right (by omega) (show k ≤ 7 by omega))
      obtain ⟨c, hc⟩ : ∃ c, l[k]? = some c := ⟨_, List.getElem?_eq_getElem hgo⟩
      have hix := index_bs (P := Tryz.prog) Tryz.underlying9 .i64 l k k c rfl hc
      have hd : l.drop k = c :: l.drop (k + 1) := by
        obtain ⟨h1, h2⟩ := List.getElem?_eq_some_iff.1 hc
        rw [← h2]; exact List.drop_eq_getElem_cons h1
      have hci : (0 : Int) ≤ (k : Int) := by omega
      rcases ix_of c with ⟨h1, h2⟩ | ⟨j, h1, h2, h3⟩
      · have hx : ∀ w, Calls Tryz.prog 142 #[.string { data := #[48, 49, 50, 51, 52, 53, 54, 55, 56, 57, 97, 98, 99, 100, 101, 102, 103, 104, 106, 107, 109, 110, 112, 113, 114, 115, 116, 118, 119, 120, 121, 122] }, .int .u8 c.toNat] w fun e w' => e = .returned (.int .i64 (-1)) ∧ w = w' := fun w => by
          have := indexByte_any (bs signs) c w
          rw [bs_data, show Lib.indexByte signs c = -1 from h1] at this
          exact this
        have HX := Lib.hid hx
        have hres : num 0 l = none := by
          rw [← hnum.out, hd, num, h1, if_pos (by omega)]
        have HR := Lib.hid hres
        clear hx hd hc h1 h2 hres hnum
        go_wp2_with fail
        refine (HX.out _).mono ?_
        rintro e w' ⟨rfl, rfl⟩
        go_wp2_with fail
        go_ret2
        rw [HR.out]
        exact ⟨rfl, rfl⟩
      · have hx : ∀ w, Calls Tryz.prog 142 #[.string { data := #[48, 49, 50, 51, 52, 53, 54, 55, 56, 57, 97, 98, 99, 100, 101, 102, 103, 104, 106, 107, 109, 110, 112, 113, 114, 115, 116, 118, 119, 120, 121, 122] }, .int .u8 c.toNat] w fun e w' => e = .returned (.int .i64 j) ∧ w = w' := fun w => by
          have := indexByte_any (bs signs) c w
          rw [bs_data, show Lib.indexByte signs c = j from h1] at this
          exact this
        have HX := Lib.hid hx
        have hor := or_low m j h2 hm35
        have hres : num (32 * m + j) (l.drop (k + 1)) = num 0 l := by
          rw [← hnum.out, hd, num, h1, if_neg (by omega), Int.toNat_natCast]
        have HR := Lib.hid hres
        clear hx hd hc h1 h3 hres hnum
        go_wp2_with fail
        refine (HX.out _).mono ?_
        rintro e w' ⟨rfl, rfl⟩
        go_wp2_with fail
        go_round
        case rel => exact ⟨k + 1, 32 * m + j, by omega, by go_num, by go_num, by rw [Nat.pow_succ]; omega, HR.out⟩
        case measure => simp [intOf]; omega
    · have hres : num 0 l = some m := by rw [← hnum.out, List.drop_of_length_le (by omega)]; rfl
      have HR := Lib.hid hres
      clear hres hnum
      go_wp2_with fail
      go_ret2
      rw [HR.out]
      exact ⟨rfl, rfl⟩

def okT (n : Int) : Prop := 0 ≤ n ∧ n < 1099511627776

theorem digits_int (t : Int) (w : World) (h1 : 0 ≤ t) (h2 : t < 1099511627776) :
    Calls Tryz.prog 69 #[.int .i64 t] w (RetBelow w (.string (bs (dg 8 t.toNat)))) := by
  obtain ⟨n, rfl⟩ := Int.eq_ofNat_of_zero_le h1
  exact digits_any n w (by omega)

set_option maxHeartbeats 1000000 in
set_option maxRecDepth 10000 in
theorem make_ok (t s : Int) (w : World) (ht : okT t) (hs : okT s) :
    Calls Tryz.prog 30 #[.int .i64 t, .int .i64 s] w (RetBelow w (.tuple #[.string (bs (mk t.toNat s.toNat)), .int .i64 0])) := by
  obtain ⟨ht1, ht2⟩ := ht
  obtain ⟨hs1, hs2⟩ := hs
  obtain ⟨x, hx⟩ : ∃ x, dg 8 t.toNat = x := ⟨_, rfl⟩
  obtain ⟨y, hy⟩ : ∃ y, dg 8 s.toNat = y := ⟨_, rfl⟩
  have hl : x.length ≤ 8 ∧ y.length ≤ 8 := by rw [← hx, ← hy, dg_length, dg_length]; omega
  obtain ⟨hl1, hl2⟩ := hl
  have hnl : ¬ 9223372036854775807 < x.length + y.length := by omega
  have H1 := digits_int t
  have H2 := digits_int s
  rw [hx] at H1
  rw [hy] at H2
  have HM : mk t.toNat s.toNat = x ++ y := by rw [mk, hx, hy]
  rw [HM]
  have G1 := Lib.hid H1
  have G2 := Lib.hid H2
  clear H1 H2 HM hx hy
  go_enter Tryz.func30, Tryz.ntmps30
  go_wp2_with fail
  refine (G1.out _ ht1 ht2).mono ?_
  rintro e w1 ⟨rfl, hb1⟩
  go_wp2_with fail
  refine (G2.out _ hs1 hs2).mono ?_
  rintro e w2 ⟨rfl, hb2⟩
  go_wp2_with fail
  go_ret2
  exact ⟨rfl, below_trans hb1 hb2⟩

def parseV : Option (Nat × Nat) → Value
  | some (t, s) => .tuple #[.int .i64 (t : Int), .int .i64 (s : Int), .int .i64 0]
  | none => .tuple #[.int .i64 0, .int .i64 0, .int .i64 3]

set_option maxHeartbeats 1000000 in
set_option maxRecDepth 10000 in
theorem parse_any (l : List UInt8) (w : World) (_hl : l.length ≤ 1000000000000) :
    Calls Tryz.prog 99 #[.string (bs l)] w fun e w' => e = .returned (parseV (parse l)) ∧ w = w' := by
  unfold parse
  by_cases h16 : l.length ≠ 16
  · rw [if_pos h16]
    have hb : ((l.length : Int) != 16) = true := by rw [bne_iff_ne]; omega
    clear h16
    go_enter Tryz.func99, Tryz.ntmps99
    go_wp2_with fail
    go_ret3
    exact ⟨rfl, rfl⟩
  · rw [if_neg h16]
    have h16 : l.length = 16 := by omega
    have hb : ((l.length : Int) != 16) = false := by rw [bne_eq_false_iff_eq]; omega
    have hs1 : ∀ w, (Instr.slice 9 (.string (bs l)) none (some (.int .i64 8)) none).run Tryz.prog w = .ok (.string (bs (l.take 8))) w := slice_to (P := Tryz.prog) Tryz.underlying9 l 8 (by omega)
    have hs2 : ∀ w, (Instr.slice 9 (.string (bs l)) (some (.int .i64 8)) none none).run Tryz.prog w = .ok (.string (bs (l.drop 8))) w := slice_from (P := Tryz.prog) Tryz.underlying9 l 8 (by omega)
    have hn1 := number_any (l.take 8)
    have hn2 := number_any (l.drop 8)
    have hl1 : (l.take 8).length ≤ 8 := List.length_take_le _ _
    have hl2 : (l.drop 8).length ≤ 8 := by rw [List.length_drop]; omega
    obtain ⟨x, hx⟩ : ∃ x, num 0 (l.take 8) = x := ⟨_, rfl⟩
    obtain ⟨y, hy⟩ : ∃ y, num 0 (l.drop 8) = y := ⟨_, rfl⟩
    rw [hx] at hn1 ⊢
    rw [hy] at hn2 ⊢
    have H1 := Lib.hid hn1
    have H2 := Lib.hid hn2
    clear hn1 hn2 hx hy h16
    rcases x with _ | x <;> rcases y with _ | y
    all_goals
      simp only [numV] at H1 H2
      go_enter Tryz.func99, Tryz.ntmps99
      go_wp2_with fail
      refine (H1.out _ hl1).mono ?_
      rintro e w' ⟨rfl, rfl⟩
      go_wp2_with fail
      refine (H2.out _ hl2).mono ?_
      rintro e w' ⟨rfl, rfl⟩
      go_wp2_with fail
      go_ret3
      exact ⟨rfl, rfl⟩

end Go.Proofs.YtgabmfibfikdbaaGreatDoor

/-
  Layer 2: the walks of frame's functions.
-/
namespace Go.Proofs.YtgabmfibfikdbaaGreatDoor
open Go.RowKit Go.Bar Go.Bar.Leb Go.Bar.Frm

theorem u32_low (c b k : Nat) (hc : c < 4294967296) (hb : b < 256) : bits .and .u32 (bits .xor .u32 (c : Int) ((b / 2 ^ k : Nat) : Int)) 1 = (((c + b / 2 ^ k) % 2 : Nat) : Int) := by
  have h1 : b / 2 ^ k < 256 := Nat.lt_of_le_of_lt (Nat.div_le_self _ _) hb
  rw [u32_xor_nat c _ hc (by omega)]
  have h2 := Nat.xor_lt_two_pow (n := 32) (x := c) (y := b / 2 ^ k) (by omega) (by omega)
  have := u32_and_nat (c ^^^ (b / 2 ^ k)) 1 h2 (by omega)
  rw [show ((1 : Nat) : Int) = 1 from rfl] at this
  rw [this, Nat.and_one_is_mod]
  congr 1
  have := @Nat.xor_mod_two_eq_one c (b / 2 ^ k)
  omega

theorem more_cast (b j : Nat) (hb : b < 256) : (b : Int) / 2 ^ j % 4294967296 = ((b / 2 ^ j : Nat) : Int) := by
  have h1 : b / 2 ^ j < 256 := Nat.lt_of_le_of_lt (Nat.div_le_self _ _) hb
  have e : (b : Int) / 2 ^ j = ((b / 2 ^ j : Nat) : Int) := by
    rw [Int.natCast_ediv, Int.natCast_pow]; rfl
  rw [e]
  clear e
  generalize b / 2 ^ j = x at *
  omega
theorem more_yes {C b j : Nat} (hC : C < 4294967296) (hb : b < 256) (h : (bits .and .u32 (bits .xor .u32 (C : Int) ((b : Int) / 2 ^ j % 4294967296)) 1 == 1) = true) :
    bits .xor .u32 ((C : Int) / 2) 2197175160 = ((bstep C (b / 2 ^ j) : Nat) : Int) := by
  rw [more_cast b j hb, u32_low C b j hC hb, beq_iff_eq] at h
  unfold bstep
  rw [if_pos (by omega)]
  have := u32_xor_nat (C / 2) 2197175160 (by omega) (by omega)
  rw [← this]
  rfl
theorem more_no {C b j : Nat} (hC : C < 4294967296) (hb : b < 256) (h : (bits .and .u32 (bits .xor .u32 (C : Int) ((b : Int) / 2 ^ j % 4294967296)) 1 == 1) = false) :
    (C : Int) / 2 = ((bstep C (b / 2 ^ j) : Nat) : Int) := by
  rw [more_cast b j hb, u32_low C b j hC hb, beq_eq_false_iff_ne] at h
  unfold bstep
  rw [if_neg (by omega)]
  rfl
theorem no_bits (n : Nat) (h : n < 4294967296) : bits .xor .u32 IntKind.u32.max (n : Int) = ((no n : Nat) : Int) := by
  have h1 := u32_xor_nat 4294967295 n (by omega) h
  have e : IntKind.u32.max = ((4294967295 : Nat) : Int) := rfl
  rw [e, h1]
  unfold no
  congr 1
  apply Nat.eq_of_testBit_eq
  intro i
  rw [Nat.testBit_xor]
  have h2 := Nat.testBit_two_pow_sub_succ (x := n) (n := 32) h i
  rw [show 2 ^ 32 - (n + 1) = 4294967295 - n by omega] at h2
  rw [h2]
  have h3 := Nat.testBit_two_pow_sub_one 32 i
  rw [show (2 : Nat) ^ 32 - 1 = 4294967295 from rfl] at h3
  rw [h3]
  by_cases hi : i < 32
  · simp [hi]
  · have := Nat.testBit_lt_two_pow (x := n) (i := i) (Nat.lt_of_lt_of_le h (show 4294967296 ≤ 2 ^ i from Nat.pow_le_pow_right (show 0 < 2 by decide) (show 32 ≤ i by omega)))
    simp [hi, this]

set_option maxHeartbeats 400000 in
set_option maxRecDepth 10000 in
theorem more_any (s : ByteArray) (n : Nat) (w : World) (hs : s.size ≤ maxLen) (hn : n < 4294967296) :
    Calls Tryz.prog 74 #[.int .u32 n, .string s] w fun e w' => e = .returned (.int .u32 (more n s.data.toList)) ∧ w = w' := by
  unfold maxLen at hs
  go_enter Tryz.func74, Tryz.ntmps74
  go_wp2
  go_loop [5, 13] (fun c i => ∃ k : Nat, k ≤ s.size ∧ i = .int .i64 k ∧ c = .int .u32 (crc (no n) (s.data.toList.take k))) (fun _ i => s.size - (intOf i).toNat)
  case atStart => exact ⟨0, Nat.zero_le _, rfl, by rw [no_bits n hn]; rfl⟩
  case round =>
    obtain ⟨k, hk, rfl, rfl⟩ := hrel
    have hC := crc_lt (s.data.toList.take k) (no_lt n)
    by_cases hlt : k < s.size
    · go_wp2
      go_loop [5, 16] (fun c i => ∃ j : Nat, j ≤ 8 ∧ i = .int .i64 j ∧ c = .int .u32 (bsteps j (crc (no n) (s.data.toList.take k)) s[k].toNat)) (fun _ i => 8 - (intOf i).toNat)
      case atStart => exact ⟨0, by omega, rfl, rfl⟩
      case round =>
        obtain ⟨j, hj, rfl, rfl⟩ := hrel
        have hD := bsteps_lt j (b := s[k].toNat) hC
        by_cases hj8 : j < 8
        · go_wp2
          all_goals
            go_round
            case rel => exact ⟨j + 1, by omega, by go_num, by first | rw [more_yes hD (UInt8.toNat_lt _) (by assumption)]; rfl | rw [more_no hD (UInt8.toNat_lt _) (by assumption)]; rfl⟩
            case measure => simp [intOf]; omega
        · obtain rfl : j = 8 := by omega
          have e := crc_snoc (s.data.toList.take k) s[k] (no n)
          have e2 : s.data.toList.take k ++ [s[k]] = s.data.toList.take (k + 1) := by
            rw [List.take_succ_eq_append_getElem (by simpa using hlt)]; rfl
          rw [e2] at e
          have HE := Lib.hid e
          clear e e2
          go_wp2
          go_round
          case rel => exact ⟨k + 1, by omega, by go_num, by rw [HE.out]⟩
          case measure => simp [intOf]; omega
    · go_wp2
      go_ret
      rw [no_bits _ hC, List.take_of_length_le (by rw [← size_eq]; omega)]
      exact ⟨rfl, rfl⟩

theorem more_of {m : Nat} (s : ByteArray) (n : Nat) (w : World) (hs : s.size ≤ maxLen) (hn : n < 4294967296) (h : more n s.data.toList = m) :
    Calls Tryz.prog 74 #[.int .u32 n, .string s] w fun e w' => e = .returned (.int .u32 m) ∧ w = w' := by
  rw [← h]
  exact more_any s n w hs hn

set_option maxHeartbeats 400000 in
theorem sum_any (s : ByteArray) (w : World) (hs : s.size ≤ maxLen) :
    Calls Tryz.prog 70 #[.string s] w fun e w' => e = .returned (.int .u32 (sum s.data.toList)) ∧ w = w' := by
  go_enter Tryz.func70, Tryz.ntmps70
  go_wp2_with fail
  refine (more_any s 0 _ hs (by omega)).mono ?_
  rintro e w' ⟨rfl, rfl⟩
  go_wp2_with fail
  go_ret
  exact ⟨rfl, rfl⟩

attribute [local go_sem ↓] Go.wp_at_zero Go.wp_at_succ

theorem byte4 (n : Nat) : bcs (sum4 n) = [.int .u8 ((n % 256 : Nat) : Int), .int .u8 ((n / 256 % 256 : Nat) : Int), .int .u8 ((n / 65536 % 256 : Nat) : Int), .int .u8 ((n / 16777216 % 256 : Nat) : Int)] := by
  simp [bcs, sum4]

theorem src4 {P : Program} {t e : TypeId} (hT : P.underlying t = some (.slice e)) (w : World) (n : Nat) (z0 z1 z2 z3 : Int) (h0 : z0 = ((n % 256 : Nat) : Int)) (h1 : z1 = ((n / 256 % 256 : Nat) : Int)) (h2 : z2 = ((n / 65536 % 256 : Nat) : Int)) (h3 : z3 = ((n / 16777216 % 256 : Nat) : Int)) :
    Src P 1 t (.slice (some ⟨w.heap.size, 0, none⟩) 4 4) (sum4 n).length (bcs (sum4 n)) (w.alloc (.cells #[.int .u8 z0, .int .u8 z1, .int .u8 z2, .int .u8 z3] e)) := by
  subst h0; subst h1; subst h2; subst h3
  refine Src.ofSlice _ hT _ _ _ _ rfl (fun j u hu => ?_) (fun u hu => ?_)
  · rw [byte4] at hu
    rw [addr_add, World.cell?_alloc_new, Nat.zero_add, ← hu]
    rcases j with _ | _ | _ | _ | j <;> rfl
  · simp only [bcs, List.mem_map] at hu
    obtain ⟨b, _, rfl⟩ := hu
    rfl

set_option maxHeartbeats 1000000 in
set_option maxRecDepth 10000 in
theorem append_any (V : Value) (xs : List UInt8) (k : UInt8) (d : ByteArray) (W : World) (hx : xs.length + 15 + d.size ≤ 140737488355328) (hb : BBuf W 5 V xs) :
    Calls Tryz.prog 50 #[V, .agg #[.int .u8 k.toNat, .string d]] W (RetB W V 5 xs (rec (k, d.data.toList))) := by
  have hul := u_len d.size (by omega)
  have hc1 := conv_one bytes_ty 9 Tryz.underlying9 (W.alloc (.cells #[.int .u8 k.toNat, .string d] 100)).drew (k.toNat : Int) k rfl
  rw [show (World.alloc (W.alloc (.cells #[.int .u8 k.toNat, .string d] 100)).drew (.cells #[.int .u8 k.toNat] 5)) = ((W.alloc (.cells #[.int .u8 k.toNat, .string d] 100)).alloc (.cells #[.int .u8 k.toNat] 5)).drew from rfl, show (W.alloc (.cells #[.int .u8 k.toNat, .string d] 100)).drew.heap.size = W.heap.size + 1 by simp] at hc1
  have hd : d.size ≤ maxLen := by unfold maxLen; omega
  have hs1 : (bs [k]).size ≤ maxLen := (by decide : 1 ≤ maxLen)
  have hs2 := sum_lt [k]
  have hrs : rsum (k, d.data.toList) < 4294967296 := sum_lt _
  go_enter Tryz.func50, Tryz.ntmps50
  go_upto_region 1 with fail
  go_cut [5] (fun s5 wx => s5 = .int .u32 (rsum (k, d.data.toList)) ∧ Below W.heap.size W wx ∧ W.heap.size < wx.heap.size ∧ wx.cell? ⟨W.heap.size, 0, none⟩ = some (.int .u8 k.toNat) ∧ wx.cell? ⟨W.heap.size, 1, none⟩ = some (.string d))
  case first =>
    go_region_with (first
      | (go_at_call 70; refine (sum_any (bs [k]) _ hs1).mono ?_; rintro e w' ⟨rfl, rfl⟩)
      | (go_at_call 74; refine (more_any d (sum [k]) _ hd hs2).mono ?_; rintro e w' ⟨rfl, rfl⟩))
    all_goals (go_wp2_with fail; go_meet; exact ⟨by rw [more_sum]; rfl, (((Below.refl _ _).alloc (Nat.le_refl _) _).alloc (by simp) _).drew, by simp; omega, by simp, by simp⟩)
  case rest =>
    obtain ⟨rfl, hbl, hsz, c0, c1⟩ := hcut
    clear hc1
    have hb0 := hb.below hbl
    have happ := BApp.start' hb0
    go_wp2_with (at_builtin; refine wpList_append_byte rfl (.tmp 14) (.tmp 17) 96 rfl bytes_ty _ rfl rfl happ rfl (by simp; omega) ?_; intro v1 w1 happ1; clear happ; have c1' := (happ1.cell_new hb (Nat.le_refl _) hsz).trans c1; clear c0 c1 hb0)
    refine (uint_any v1 (xs ++ [k]) d.size _ (by omega) (by rw [List.length_append]; simp; omega) happ1.buf).mono ?_
    rintro e w2 ⟨v2, rfl, happ2⟩
    have happ2 := happ1.trans happ2
    have c2 := (happ2.cell_new hb (Nat.le_refl _) hsz).trans (((happ1.cell_new hb (Nat.le_refl _) hsz).symm).trans c1')
    clear happ1 c1'
    have hsrc := src4 (P := Tryz.prog) Tryz.underlying96 w2 (rsum (k, d.data.toList)) ((rsum (k, d.data.toList) : Int) % 256) ((rsum (k, d.data.toList) : Int) / 256 % 256) ((rsum (k, d.data.toList) : Int) / 65536 % 256) ((rsum (k, d.data.toList) : Int) / 16777216) (by omega) (by omega) (by omega) (by omega)
    have HS := Lib.hid hsrc
    clear hsrc
    go_wp2_with (first
      | (at_builtin; refine wpList_append_src rfl (.tmp 25) (.tmp 37) 96 96 rfl bytes_ty rfl (happ2.alloc _) rfl HS.out (by simp [sum4_len]; omega) ?_; intro v3 w3 happ3; have c3 := (happ3.cell_new hb (Nat.le_refl _) hsz).trans (((happ2.cell_new hb (Nat.le_refl _) hsz).symm).trans c2); clear HS c2 happ2)
      | (at_builtin; refine wpList_append_str rfl (.tmp 39) (.tmp 41) 96 9 rfl bytes_ty Tryz.underlying9 d rfl happ3 rfl (by simp [sum4_len]; omega) ?_; intro v4 w4 happ4))
    go_ret
    exact ⟨v4, rfl, by
      have := happ4.after hbl hb
      have e : [] ++ [k] ++ u d.size ++ sum4 (rsum (k, d.data.toList)) ++ d.data.toList = rec (k, d.data.toList) := by simp [rec]
      rw [e] at this
      exact this⟩

end Go.Proofs.YtgabmfibfikdbaaGreatDoor

/-
  Layer 2: the walks of frame.Next and frame.All.
-/
namespace Go.Proofs.YtgabmfibfikdbaaGreatDoor
open Go.RowKit Go.Bar Go.Bar.Leb Go.Bar.Frm

def recV (r : Rc) : Value := .agg #[.int .u8 r.1.toNat, .string (bs r.2)]
def nextV (x : Rc × List UInt8 × Nat) : Value := .tuple #[recV x.1, .string (bs x.2.1), .int .i64 x.2.2]

theorem or_shift (x b i : Nat) (h : x < 2 ^ i) : x ||| b * 2 ^ i = x + b * 2 ^ i := by
  have := Nat.two_pow_add_eq_or_of_lt h b
  rw [Nat.or_comm, Nat.mul_comm b, ← this, Nat.add_comm]
theorem num4_bits (a b c f : UInt8) (r : List UInt8) : bits .or .u32 (bits .or .u32 (bits .or .u32 ((a.toNat : Int) % 4294967296) ((b.toNat : Int) % 4294967296 * 256 % 4294967296)) ((c.toNat : Int) % 4294967296 * 65536 % 4294967296)) ((f.toNat : Int) % 4294967296 * 16777216 % 4294967296) = ((num4 (a :: b :: c :: f :: r) : Nat) : Int) := by
  have ha := UInt8.toNat_lt a
  have hb := UInt8.toNat_lt b
  have hc := UInt8.toNat_lt c
  have hf := UInt8.toNat_lt f
  simp only [num4, List.getD_cons_zero, List.getD_cons_succ]
  generalize a.toNat = x at *
  generalize b.toNat = y at *
  generalize c.toNat = z at *
  generalize f.toNat = v at *
  rw [show (x : Int) % 4294967296 = (x : Nat) by omega, show (y : Int) % 4294967296 * 256 % 4294967296 = ((y * 2 ^ 8 : Nat) : Int) by omega, show (z : Int) % 4294967296 * 65536 % 4294967296 = ((z * 2 ^ 16 : Nat) : Int) by omega, show (v : Int) % 4294967296 * 16777216 % 4294967296 = ((v * 2 ^ 24 : Nat) : Int) by omega]
  rw [u32_or_nat _ _ (by omega) (by omega), or_shift _ _ _ (by omega), u32_or_nat _ _ (by omega) (by omega), or_shift _ _ _ (by omega), u32_or_nat _ _ (by omega) (by omega), or_shift _ _ _ (by omega)]

set_option maxHeartbeats 1000000 in
set_option maxRecDepth 10000 in
theorem next_any (l : List UInt8) (w : World) (hs : l.length ≤ 9223372036854775807) :
    Calls Tryz.prog 35 #[.string (bs l)] w (RetBelow w (nextV (next l))) := by
  match l with
  | [] =>
    go_enter Tryz.func35, Tryz.ntmps35
    go_wp2_with fail
    refine (takeByte_none (bs []) _ rfl).mono ?_
    rintro e w' ⟨rfl, n, rfl⟩
    go_wp2_with fail
    go_returns
    exact ⟨rfl, ((below_drewN ((Below.refl _ _).alloc (Nat.le_refl _) _) _).setCell (by simp) _).setCell (by simp) _⟩
  | k :: l =>
    rw [List.length_cons] at hs
    obtain ⟨n, r, er, ht⟩ : ∃ n r er, takeMost l 1048576 = (n, r, er) := ⟨_, _, _, rfl⟩
    have hp := takeMost_prop l 1048576 (by omega)
    have hn1 : (takeMost l 1048576).2.2 = 0 → (takeMost l 1048576).1 ≤ 1048576 := takeMost_le l 1048576
    rw [next, ht]
    rw [ht] at hp hn1
    simp only at hp hn1 ⊢
    obtain ⟨hv, hrl, he⟩ := hp
    have HT := Lib.hid (show takeMost (bs l).data.toList 1048576 = (n, r, er) from ht)
    clear ht
    by_cases h1 : er ≠ 0
    · rw [if_pos h1]
      have hb : ((er : Int) != 0) = true := by rw [bne_iff_ne]; omega
      clear h1 he hn1
      go_enter Tryz.func35, Tryz.ntmps35
      go_wp2_with fail
      refine (takeByte_some (bs (k :: l)) _ k l (by rw [bs_size]; unfold maxLen; simp; omega) rfl).mono ?_
      rintro e w' ⟨rfl, n1, rfl⟩
      go_wp2_with fail
      refine (takeMost_of (bs l) 1048576 HT.out _ (by rw [bs_size]; unfold maxLen; omega) (by omega) (by omega)).mono ?_
      rintro e w' ⟨rfl, n2, rfl⟩
      go_wp2_with fail
      go_returns
      exact ⟨rfl, ((below_drewN ((Below.refl _ _).alloc (Nat.le_refl _) _) _).setCell (by simp) _).setCell (by simp) _⟩
    · rw [if_neg h1]
      obtain rfl : er = 0 := by omega
      have hn2 := hn1 rfl
      clear h1 he hn1
      by_cases h2 : r.length < 4 + n
      · rw [if_pos h2]
        go_enter Tryz.func35, Tryz.ntmps35
        go_wp2_with fail
        refine (takeByte_some (bs (k :: l)) _ k l (by rw [bs_size]; unfold maxLen; simp; omega) rfl).mono ?_
        rintro e w' ⟨rfl, n1, rfl⟩
        go_wp2_with fail
        refine (takeMost_of (bs l) 1048576 HT.out _ (by rw [bs_size]; unfold maxLen; omega) (by omega) (by omega)).mono ?_
        rintro e w' ⟨rfl, n2, rfl⟩
        go_wp2_with fail
        go_returns
        exact ⟨rfl, ((below_drewN ((Below.refl _ _).alloc (Nat.le_refl _) _) _).setCell (by simp) _).setCell (by simp) _⟩
      · rw [if_neg h2]
        obtain ⟨d, hd⟩ : ∃ d, d = (r.drop 4).take n := ⟨_, rfl⟩
        rw [← hd]
        have h5 : 4 ≤ r.length := by omega
        obtain ⟨a, b, c, f, r', rfl⟩ : ∃ a b c f r', r = a :: b :: c :: f :: r' := by
          match r, h5 with
          | a :: b :: c :: f :: r', _ => exact ⟨a, b, c, f, r', rfl⟩
        have h4 : n ≤ r'.length := by simp at h2; omega
        have hsz : (bs (a :: b :: c :: f :: r')).size = r'.length + 4 := rfl
        have hr4 : r'.length + 4 ≤ l.length := by simpa using hrl
        have hi0 := index_bs Tryz.underlying9 .i64 (a :: b :: c :: f :: r') 0 0 a rfl rfl
        have hi1 := index_bs Tryz.underlying9 .i64 (a :: b :: c :: f :: r') 1 1 b rfl rfl
        have hi2 := index_bs Tryz.underlying9 .i64 (a :: b :: c :: f :: r') 2 2 c rfl rfl
        have hi3 := index_bs Tryz.underlying9 .i64 (a :: b :: c :: f :: r') 3 3 f rfl rfl
        have HN := Lib.hid (num4_bits a b c f r')
        have hdl : d.length ≤ 1048576 := by rw [hd]; exact Nat.le_trans (List.length_take_le _ _) hn2
        have hx1 : (bs (k :: l)).extract 0 1 = bs [k] := bs_extract _ _ _
        have hx2 : (bs (a :: b :: c :: f :: r')).extract 4 (4 + n) = bs d := by rw [bs_extract, hd, Nat.add_sub_cancel_left]
        have hS : ∀ w, Calls Tryz.prog 70 #[.string ((bs (k :: l)).extract 0 1)] w fun e w' => e = .returned (.int .u32 (sum [k])) ∧ w = w' := fun w => by
          rw [hx1]; exact sum_any (bs [k]) w (by decide : 1 ≤ maxLen)
        have hM : ∀ w, Calls Tryz.prog 74 #[.int .u32 (sum [k]), .string ((bs (a :: b :: c :: f :: r')).extract 4 (4 + n))] w fun e w' => e = .returned (.int .u32 (rsum (k, d))) ∧ w = w' := fun w => by
          rw [hx2]; exact more_of (bs d) (sum [k]) w (by rw [bs_size]; unfold maxLen; omega) (sum_lt _) (more_sum [k] d)
        have HS := Lib.hid hS
        have HM := Lib.hid hM
        have HX := Lib.hid hx2
        clear h2 hd h5 hrl hS hM hx1 hx2
        have step : ∀ (bb : Bool) (v : Value), (((rsum (k, d) : Nat) : Int) != bits .or .u32 (bits .or .u32 (bits .or .u32 ((a.toNat : Int) % 4294967296) ((b.toNat : Int) % 4294967296 * 256 % 4294967296)) ((c.toNat : Int) % 4294967296 * 65536 % 4294967296)) ((f.toNat : Int) % 4294967296 * 16777216 % 4294967296)) = bb →
            Hid ((bb = true → v = nextV (z, [], 4)) ∧ (bb = false → v = nextV ((k, d), (a :: b :: c :: f :: r').drop (4 + n), 0))) → Calls Tryz.prog 35 #[.string (bs (k :: l))] w (RetBelow w v) := by
          intro bb v hbb hv
          go_enter Tryz.func35, Tryz.ntmps35
          go_wp2_with fail
          refine (takeByte_some (bs (k :: l)) _ k l (by rw [bs_size]; unfold maxLen; simp; omega) rfl).mono ?_
          rintro e w' ⟨rfl, n1, rfl⟩
          go_wp2_with fail
          refine (takeMost_of (bs l) 1048576 HT.out _ (by rw [bs_size]; unfold maxLen; omega) (by omega) (by omega)).mono ?_
          rintro e w' ⟨rfl, n2, rfl⟩
          go_wp2_with fail
          go_quiet (fail)
          go_wp2_with fail
          refine (HS.out _).mono ?_
          rintro e w' ⟨rfl, rfl⟩
          go_wp2_with fail
          refine (HM.out _).mono ?_
          rintro e w' ⟨rfl, rfl⟩
          clear hi0 hi1 hi2 hi3
          have hw4 : IntKind.i64.wrap (4 + (n : Int)) = 4 + (n : Int) := IntWalk.i64_in _ ⟨by omega, by omega⟩
          have hp4 : (0 : Int) ≤ 4 + (n : Int) := by omega
          rcases bb with _ | _
          · obtain rfl : v = nextV ((k, d), (a :: b :: c :: f :: r').drop (4 + n), 0) := by simpa using hv.out.2
            clear hv
            go_wp2_with fail
            go_region
            all_goals go_wp2_with fail
            all_goals go_returns
            all_goals
              have HY : (bs (a :: b :: c :: f :: r')).extract (4 + n) (r'.length + 4) = bs ((a :: b :: c :: f :: r').drop (4 + n)) := by
                rw [bs_extract, List.take_of_length_le (by rw [List.length_drop]; simp)]
              exact ⟨by rw [HX.out, HY]; rfl, ((below_drewN ((Below.refl _ _).alloc (Nat.le_refl _) _) _).setCell (by simp) _).setCell (by simp) _⟩
          · obtain rfl : v = nextV (z, [], 4) := by simpa using hv.out.1
            clear hv
            go_wp2_with fail
            go_returns
            exact ⟨rfl, ((below_drewN ((Below.refl _ _).alloc (Nat.le_refl _) _) _).setCell (by simp) _).setCell (by simp) _⟩
        by_cases h3 : rsum (k, d) = num4 (a :: b :: c :: f :: r')
        · rw [if_neg (fun h => h h3)]
          refine step false _ ?_ ⟨fun h => (by cases h), fun _ => rfl⟩
          rw [HN.out, h3]
          simp
        · rw [if_pos h3]
          refine step true _ ?_ ⟨fun _ => rfl, fun h => (by cases h)⟩
          rw [HN.out, bne_iff_ne]
          omega

theorem next_of {l r d : List UInt8} {k : UInt8} {er : Nat} (h : next l = ((k, d), r, er)) (w : World) (hs : l.length ≤ 9223372036854775807) :
    Calls Tryz.prog 35 #[.string (bs l)] w (RetBelow w (.tuple #[.agg #[.int .u8 k.toNat, .string (bs d)], .string (bs r), .int .i64 er])) := by
  have := next_any l w hs
  rw [h] at this
  exact this

def frcs (rs : List Rc) : List Value := rs.flatMap fun r => [.int .u8 r.1.toNat, .string (bs r.2)]
theorem frcs_snoc (rs : List Rc) (k : UInt8) (d : List UInt8) : frcs (rs ++ [(k, d)]) = frcs rs ++ [.int .u8 k.toNat, .string (bs d)] := by simp [frcs]
theorem rec_ty : ElemTy Tryz.prog 118 100 (.agg #[.int .u8 0, .string ByteArray.empty]) 2 24 :=
  ⟨Tryz.underlying118, info_parts (show (Tryz.prog.info? 100).map (fun i => (i.zero, i.size, i.bytes)) = some (some (.agg #[.int .u8 0, .string ByteArray.empty]), 2, 24) by kernel_rfl), rfl⟩

def lenOf : Value → Nat
  | .string s => s.size
  | _ => 0

def RetAll (w : World) (e : TypeId) (rs : List Rc) (n : Int) (en : Ending) (w' : World) : Prop :=
  ∃ v, en = .returned (.tuple #[v, .int .i64 n]) ∧ Buf w' e 2 v rs.length (frcs rs) ∧ Below w.heap.size w w'

set_option maxHeartbeats 1000000 in
set_option maxRecDepth 10000 in
theorem all_any (l : List UInt8) (w : World) (hs : l.length ≤ 1000000000000) :
    Calls Tryz.prog 43 #[.string (bs l)] w (RetAll w 100 (recs l) ((l.length : Int) - ((left l).length : Nat))) := by
  have hll := left_le l
  go_enter Tryz.func43, Tryz.ntmps43
  go_wp2_with fail
  go_loopw [4, 5] (fun v s wr => ∃ (rs : List Rc) (m : List UInt8), s = .string (bs m) ∧ rs.length * 6 + m.length ≤ l.length ∧ App w (.slice none 0 0) 100 2 0 [] wr v rs.length (frcs rs) ∧ Hid (rs ++ recs m = recs l ∧ left m = left l))
    (fun _ s _ => lenOf s)
  case atStart => exact ⟨[], l, rfl, by simp, App.start' (Buf.nil w _ _), rfl, rfl⟩
  case round =>
    obtain ⟨rs, m, rfl, hlen, happ, hr⟩ := hrel
    obtain ⟨k, d, r, er, hn⟩ : ∃ k d r er, next m = ((k, d), r, er) := ⟨_, _, _, _, rfl⟩
    have HN := Lib.hid hn
    by_cases he : er = 0
    · subst he
      have h6 := next_left m (by rw [hn])
      have hg := recs_go (l := m) (by rw [hn])
      rw [hn] at h6 hg
      simp only at h6 hg
      have HG := Lib.hid hg
      clear hg hn
      go_wp2_with fail
      refine (next_of HN.out _ (by omega)).mono ?_
      rintro e w1 ⟨rfl, hb1⟩
      have happ1 := happ.below hb1
      clear happ hb1
      go_wp2_with (at_builtin; refine wpList_append_lit rfl (.tmp 24) (.tmp 26) 118 rfl rec_ty rfl (happ1.alloc _) rfl (by simp) rfl (by simp [Value.oneCell']) (by simp only [maxLen]; omega) (by omega) ?_; intro v2 w2 happ2)
      go_roundw
      case rel => exact ⟨rs ++ [(k, d)], r, rfl, by simp; omega, by rw [frcs_snoc, List.length_append]; exact happ2, by rw [← hr.out.1, HG.out.1]; simp, by rw [← hr.out.2, HG.out.2]⟩
      case measure => simp only [lenOf, bs_size]; omega
    · have hg := recs_stop (l := m) (by rw [hn]; exact he)
      have hb : ((er : Int) != 0) = true := by rw [bne_iff_ne]; omega
      have HG := Lib.hid hg
      clear hg hn he
      go_wp2_with fail
      refine (next_of HN.out _ (by omega)).mono ?_
      rintro e w1 ⟨rfl, hb1⟩
      have happ1 := happ.below hb1
      clear happ hb1
      go_wp2_with fail
      go_ret2
      have e1 : rs = recs l := by rw [← hr.out.1, HG.out.1, List.append_nil]
      have e2 : m = left l := by rw [← hr.out.2, HG.out.2]
      have hbuf := (happ1.alloc (.cells #[.int .u8 k.toNat, .string (bs d)] 100)).buf
      rw [Nat.zero_add, List.nil_append] at hbuf
      subst e1
      exact ⟨_, by rw [← e2]; rfl, hbuf, (happ1.alloc _).below_nil⟩

end Go.Proofs.YtgabmfibfikdbaaGreatDoor
