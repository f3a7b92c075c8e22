/-
  Layer 1: the walks of leb's functions: what each call returns; buffers by chains of appends.
-/
import Derived.Test.YtkdligefhofndaaDoorLebM
import Derived.BigQuiet
import Derived.Deep.QuietTactic
namespace Go.Proofs.YtkdligefhofndaaDoor
open Go.RowKit Go.Bar Go.Bar.Leb

set_option maxHeartbeats 400000 in
set_option maxRecDepth 10000 in
theorem takeUint_any (s : ByteArray) (w : World) (hs : s.size ≤ maxLen) :
    Calls Tryd.prog 45 #[.string s] w (Quiet w (.tuple #[.int .u64 (takeU s.data.toList).1, .string (bs (takeU s.data.toList).2.1), .int .i64 (takeU s.data.toList).2.2])) := by
  unfold maxLen at hs
  go_enter Tryd.func45, Tryd.ntmps45
  go_wp2
  go_loopw [5, 10] (fun v i wr => ∃ k acc : Nat, k ≤ s.size ∧ k ≤ 9 ∧ acc < 128 ^ k ∧ v = .int .u64 acc ∧ i = .int .i64 k ∧ wr = w ∧ tk k acc (s.data.toList.drop k) = takeU s.data.toList)
    (fun _ i _ => s.size - (intOf i).toNat)
  case atStart => exact ⟨0, 0, Nat.zero_le _, by omega, by simp, rfl, rfl, rfl, rfl⟩
  case round =>
    obtain ⟨k, acc, hk, hk9, hacc, rfl, rfl, rfl, htk⟩ := hrel
    have HT := Lib.hid htk
    clear htk
    by_cases hlt : k < s.size
    · rw [drop_cons s k hlt] at HT
      go_wp2
      case roundEnd =>
        have h9 : ¬ (k : Int) = 9 := by assumption
        have h1 : (128 : Int) ≤ s[k].toNat := by assumption
        refine ⟨⟨k + 1, _, by omega, by omega, acc_lt acc k _ hacc, by rw [acc_step acc k _ hacc hk9 (UInt8.toNat_lt _) (by omega) _ (by simp)], by go_num, trivial, ?_⟩, by simp [intOf]; omega⟩
        rw [← HT.out, tk_more (by omega) (by omega)]
      all_goals (try (go_quiet (fail); go_wp2))
      all_goals go_ret3
      all_goals first
        | exact Quiet.of (takeU_bad hlt HT (by omega)) ⟨0, rfl⟩
        | exact Quiet.of (takeU_last hlt hk9 hacc HT (by omega) (by omega) (by omega) _ _ _ (by omega) (by first | (simp; done) | (rw [show k = 9 by omega]; rfl)) (by omega)) ⟨_, rfl⟩
    · go_wp2
      go_ret3
      have e : s.data.toList.drop k = [] := List.drop_eq_nil_of_le (by rw [← size_eq]; omega)
      rw [← HT.out, e]
      exact Quiet.same

theorem takeUint_of {v e : Nat} {r : List UInt8} (s : ByteArray) (h : takeU s.data.toList = (v, r, e)) (w : World) (hs : s.size ≤ maxLen) :
    Calls Tryd.prog 45 #[.string s] w (Quiet w (.tuple #[.int .u64 v, .string (bs r), .int .i64 e])) := by
  have := takeUint_any s w hs
  rw [h] at this
  exact this

theorem bytes_ty : ByteTy Tryd.prog 28 5 :=
  ⟨Tryd.underlying28, Tryd.underlying5, info_parts (show (Tryd.prog.info? 5).map (fun i => (i.zero, i.size, i.bytes)) = some (some (.int .u8 0), 1, 1) by kernel_rfl)⟩

set_option maxHeartbeats 400000 in
set_option maxRecDepth 10000 in
theorem uint_any (V : Value) (xs : List UInt8) (n : Nat) (W : World) (hn : n < 18446744073709551616) (hx : xs.length + 10 ≤ 140737488355328) (hb : BBuf W 5 V xs) :
    Calls Tryd.prog 9 #[V, .int .u64 n] W (RetB W V 5 xs (u n)) := by
  have hul := u_len n hn
  go_enter Tryd.func9, Tryd.ntmps9
  go_wp2
  go_loopw [0, 1] (fun b m wr => ∃ (k : Nat) (ys : List UInt8), k < 18446744073709551616 ∧ m = .int .u64 k ∧ BApp W V 5 xs wr b ys ∧ ys ++ u k = u n) (fun _ m _ => (intOf m).toNat)
  case atStart => exact ⟨n, [], hn, rfl, BApp.start' hb, rfl⟩
  case round =>
    obtain ⟨k, ys, hk, rfl, happ, hys⟩ := hrel
    have HY := Lib.hid hys
    have hyl : ys.length + (u k).length ≤ 10 := by rw [← List.length_append, hys]; exact hul
    have hup := u_pos k
    clear hys
    by_cases hlt : 127 < k
    · go_wp2_with (at_builtin; refine wpList_append_byte rfl (.tmp 9) (.tmp 13) 28 rfl bytes_ty _ (byte_hi k) rfl happ rfl (by omega) ?_; intro v' w' happ'; clear happ)
      go_roundw
      case rel => exact ⟨k / 128, _, by omega, by go_num, happ', by rw [← HY.out, u_ge (n := k) (by omega), List.append_assoc]; rfl⟩
      case measure => simp [intOf]; omega
    · go_wp2_with (at_builtin; refine wpList_append_byte rfl (.tmp 15) (.tmp 18) 28 rfl bytes_ty _ (byte_lo k (by omega)) rfl happ rfl (by omega) ?_; intro v' w' happ'; clear happ)
      go_ret
      exact ⟨v', rfl, by rw [← HY.out, u_lt (by omega)]; exact happ'⟩

set_option maxHeartbeats 400000 in
theorem takeMost_any (s : ByteArray) (most : Int) (w : World) (hs : s.size ≤ maxLen) (h1 : -9223372036854775808 ≤ most) (h2 : most ≤ 9223372036854775807) :
    Calls Tryd.prog 30 #[.string s, .int .i64 most] w (Quiet w (.tuple #[.int .i64 (takeMost s.data.toList most).1, .string (bs (takeMost s.data.toList most).2.1), .int .i64 (takeMost s.data.toList most).2.2])) := by
  have hp := takeU_prop s.data.toList
  unfold takeMost
  obtain ⟨v, r, er, ht⟩ : ∃ v r er, takeU s.data.toList = (v, r, er) := ⟨_, _, _, rfl⟩
  have HT := Lib.hid ht
  rw [ht] at hp ⊢
  clear ht
  obtain ⟨hv, _, he⟩ := hp
  simp only [] at hv he ⊢
  rcases he with rfl | ⟨he, rfl, rfl⟩
  · by_cases hm : (max most 0).toNat < v
    · rw [if_pos ⟨rfl, hm⟩]
      go_enter Tryd.func30, Tryd.ntmps30
      go_wp2_with fail
      refine (takeUint_of s HT.out _ hs).mono ?_
      rintro e w' ⟨rfl, n, rfl⟩
      go_wp2_with fail
      all_goals go_ret3
      all_goals exact ⟨rfl, _, rfl⟩
    · rw [if_neg (fun h => hm h.2)]
      have hv2 : v ≤ 9223372036854775807 := by omega
      go_enter Tryd.func30, Tryd.ntmps30
      go_wp2_with fail
      refine (takeUint_of s HT.out _ hs).mono ?_
      rintro e w' ⟨rfl, n, rfl⟩
      go_wp2_with fail
      all_goals go_ret3
      all_goals exact ⟨rfl, _, rfl⟩
  · rw [if_neg (fun h => by omega)]
    have hb : ((er : Int) == 0) = false := by rw [beq_eq_false_iff_ne]; omega
    clear he
    go_enter Tryd.func30, Tryd.ntmps30
    go_wp2_with fail
    refine (takeUint_of s HT.out _ hs).mono ?_
    rintro e w' ⟨rfl, n, rfl⟩
    go_wp2_with fail
    all_goals go_ret3
    all_goals exact ⟨rfl, _, rfl⟩

theorem takeMost_of {v e : Nat} {r : List UInt8} (s : ByteArray) (most : Int) (h : takeMost s.data.toList most = (v, r, e)) (w : World) (hs : s.size ≤ maxLen) (h1 : -9223372036854775808 ≤ most) (h2 : most ≤ 9223372036854775807) :
    Calls Tryd.prog 30 #[.string s, .int .i64 most] w (Quiet w (.tuple #[.int .i64 v, .string (bs r), .int .i64 e])) := by
  have := takeMost_any s most w hs h1 h2
  rw [h] at this
  exact this

set_option maxHeartbeats 400000 in
theorem takeByte_none (s : ByteArray) (w : World) (h0 : s.data.toList = []) :
    Calls Tryd.prog 44 #[.string s] w (Quiet w (.tuple #[.int .u8 0, .string (bs []), .int .i64 2])) := by
  obtain rfl : s = bs [] := by rw [← bs_eta s, h0]
  clear h0
  have he : (bs []).toList.isEmpty = true := bs_isEmpty []
  go_enter Tryd.func44, Tryd.ntmps44
  go_wp2_with fail
  all_goals go_ret3
  all_goals exact ⟨rfl, 0, rfl⟩

set_option maxHeartbeats 400000 in
theorem takeByte_some (s : ByteArray) (w : World) (c : UInt8) (r : List UInt8) (hs : s.size ≤ maxLen) (h0 : s.data.toList = c :: r) :
    Calls Tryd.prog 44 #[.string s] w (Quiet w (.tuple #[.int .u8 c.toNat, .string (bs r), .int .i64 0])) := by
  obtain rfl : s = bs (c :: r) := by rw [← bs_eta s, h0]
  unfold maxLen at hs
  clear h0
  have hsz : (bs (c :: r)).size = r.length + 1 := rfl
  have he : (bs (c :: r)).toList.isEmpty = false := bs_isEmpty _
  go_enter Tryd.func44, Tryd.ntmps44
  go_wp2_with fail
  go_quiet (fail)
  go_wp2_with fail
  go_ret3
  refine ⟨?_, _, rfl⟩
  have e2 : (bs (c :: r)).extract 1 (r.length + 1) = bs r := by
    rw [bs_extract]
    simp
  rw [← e2]
  rfl

/-- what the page fixes -/
theorem fix1 : takeU (bs [128, 0]).data.toList = (0, [], 3) := by
  rw [bs_data]; simp [takeU, tk]
theorem fix2 : takeU (bs [1, 120]).data.toList = (1, [120], 0) := by
  rw [bs_data]; simp [takeU, tk]
theorem fix3 : u 300 = [172, 2] := by rw [u_ge (by omega), u_lt (by omega)]; rfl
theorem fix4 : u 2 = [2] := by rw [u_lt (by omega)]; rfl

end Go.Proofs.YtkdligefhofndaaDoor
