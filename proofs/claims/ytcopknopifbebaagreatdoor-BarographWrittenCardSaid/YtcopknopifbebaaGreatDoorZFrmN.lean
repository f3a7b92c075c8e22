/-
  Layer 2: the walks of frame.Next and frame.All.
-/
import Derived.Test.YtcopknopifbebaaGreatDoorZLebM
import Derived.Handy
import Derived.Test.YtcopknopifbebaaGreatDoorZLib1
import Derived.Lib.Strings
import Derived.Test.YtcopknopifbebaaGreatDoorZLib4
import Derived.Deep.RegionLaw

namespace Go.Proofs.YtcopknopifbebaaGreatDoor
open Go.RowKit Go.Bar Go.Bar.Leb Go.Bar.Frm

def recV (r : Rc) : Value := .agg #[.int .u8 r.1.toNat, .string (bs r.2)]
def nextV (x : Rc × List UInt8 × Nat) : Value := .tuple #[recV x.1, .string (bs x.2.1), .int .i64 x.2.2]

theorem or_shift (x b i : Nat) (h : x < 2 ^ i) : x ||| b * 2 ^ i = x + b * 2 ^ i := by
  have := Nat.two_pow_add_eq_or_of_lt h b
  rw [Nat.or_comm, Nat.mul_comm b, ← this, Nat.add_comm]
theorem num4_bits (a b c f : UInt8) (r : List UInt8) : bits .or .u32 (bits .or .u32 (bits .or .u32 ((a.toNat : Int) % 4294967296) ((b.toNat : Int) % 4294967296 * 256 % 4294967296)) ((c.toNat : Int) % 4294967296 * 65536 % 4294967296)) ((f.toNat : Int) % 4294967296 * 16777216 % 4294967296) = ((num4 (a :: b :: c :: f :: r) : Nat) : Int) := by
  have ha := UInt8.toNat_lt a
  have hb := UInt8.toNat_lt b
  have hc := UInt8.toNat_lt c
  have hf := UInt8.toNat_lt f
  simp only [num4, List.getD_cons_zero, List.getD_cons_succ]
  generalize a.toNat = x at *
  generalize b.toNat = y at *
  generalize c.toNat = z at *
  generalize f.toNat = v at *
  rw [show (x : Int) % 4294967296 = (x : Nat) by omega, show (y : Int) % 4294967296 * 256 % 4294967296 = ((y * 2 ^ 8 : Nat) : Int) by omega, show (z : Int) % 4294967296 * 65536 % 4294967296 = ((z * 2 ^ 16 : Nat) : Int) by omega, show (v : Int) % 4294967296 * 16777216 % 4294967296 = ((v * 2 ^ 24 : Nat) : Int) by omega]
  rw [u32_or_nat _ _ (by omega) (by omega), or_shift _ _ _ (by omega), u32_or_nat _ _ (by omega) (by omega), or_shift _ _ _ (by omega), u32_or_nat _ _ (by omega) (by omega), or_shift _ _ _ (by omega)]

set_option maxHeartbeats 1000000 in
set_option maxRecDepth 10000 in
theorem next_any (l : List UInt8) (w : World) (hs : l.length ≤ 9223372036854775807) :
    Calls Tryz.prog 51 #[.string (bs l)] w (RetBelow w (nextV (next l))) := by
  match l with
  | [] =>
    go_enter Tryz.func51, Tryz.ntmps51
    go_wp2_with fail
    refine (takeByte_none (bs []) _ rfl).mono ?_
    rintro e w' ⟨rfl, n, rfl⟩
    go_wp2_with fail
    go_returns
    exact ⟨rfl, ((below_drewN ((Below.refl _ _).alloc (Nat.le_refl _) _) _).setCell (by simp) _).setCell (by simp) _⟩
  | k :: l =>
    rw [List.length_cons] at hs
    obtain ⟨n, r, er, ht⟩ : ∃ n r er, takeMost l 1048576 = (n, r, er) := ⟨_, _, _, rfl⟩
    have hp := takeMost_prop l 1048576 (by omega)
    have hn1 : (takeMost l 1048576).2.2 = 0 → (takeMost l 1048576).1 ≤ 1048576 := takeMost_le l 1048576
    rw [next, ht]
    rw [ht] at hp hn1
    simp only at hp hn1 ⊢
    obtain ⟨hv, hrl, he⟩ := hp
    have HT := Lib.hid (show takeMost (bs l).data.toList 1048576 = (n, r, er) from ht)
    clear ht
    by_cases h1 : er ≠ 0
    · rw [if_pos h1]
      have hb : ((er : Int) != 0) = true := by rw [bne_iff_ne]; omega
      clear h1 he hn1
      go_enter Tryz.func51, Tryz.ntmps51
      go_wp2_with fail
      refine (takeByte_some (bs (k :: l)) _ k l (by rw [bs_size]; unfold maxLen; simp; omega) rfl).mono ?_
      rintro e w' ⟨rfl, n1, rfl⟩
      go_wp2_with fail
      refine (takeMost_of (bs l) 1048576 HT.out _ (by rw [bs_size]; unfold maxLen; omega) (by omega) (by omega)).mono ?_
      rintro e w' ⟨rfl, n2, rfl⟩
      go_wp2_with fail
      go_returns
      exact ⟨rfl, ((below_drewN ((Below.refl _ _).alloc (Nat.le_refl _) _) _).setCell (by simp) _).setCell (by simp) _⟩
    · rw [if_neg h1]
      obtain rfl : er = 0 := by omega
      have hn2 := hn1 rfl
      clear h1 he hn1
      by_cases h2 : r.length < 4 + n
      · rw [if_pos h2]
        go_enter Tryz.func51, Tryz.ntmps51
        go_wp2_with fail
        refine (takeByte_some (bs (k :: l)) _ k l (by rw [bs_size]; unfold maxLen; simp; omega) rfl).mono ?_
        rintro e w' ⟨rfl, n1, rfl⟩
        go_wp2_with fail
        refine (takeMost_of (bs l) 1048576 HT.out _ (by rw [bs_size]; unfold maxLen; omega) (by omega) (by omega)).mono ?_
        rintro e w' ⟨rfl, n2, rfl⟩
        go_wp2_with fail
        go_returns
        exact ⟨rfl, ((below_drewN ((Below.refl _ _).alloc (Nat.le_refl _) _) _).setCell (by simp) _).setCell (by simp) _⟩
      · rw [if_neg h2]
        obtain ⟨d, hd⟩ : ∃ d, d = (r.drop 4).take n := ⟨_, rfl⟩
        rw [← hd]
        have h5 : 4 ≤ r.length := by omega
        obtain ⟨a, b, c, f, r', rfl⟩ : ∃ a b c f r', r = a :: b :: c :: f :: r' := by
          match r, h5 with
          | a :: b :: c :: f :: r', _ => exact ⟨a, b, c, f, r', rfl⟩
        have h4 : n ≤ r'.length := by simp at h2; omega
        have hsz : (bs (a :: b :: c :: f :: r')).size = r'.length + 4 := rfl
        have hr4 : r'.length + 4 ≤ l.length := by simpa using hrl
        have hi0 := index_bs Tryz.underlying9 .i64 (a :: b :: c :: f :: r') 0 0 a rfl rfl
        have hi1 := index_bs Tryz.underlying9 .i64 (a :: b :: c :: f :: r') 1 1 b rfl rfl
        have hi2 := index_bs Tryz.underlying9 .i64 (a :: b :: c :: f :: r') 2 2 c rfl rfl
        have hi3 := index_bs Tryz.underlying9 .i64 (a :: b :: c :: f :: r') 3 3 f rfl rfl
        have HN := Lib.hid (num4_bits a b c f r')
        have hdl : d.length ≤ 1048576 := by rw [hd]; exact Nat.le_trans (List.length_take_le _ _) hn2
        have hx1 : (bs (k :: l)).extract 0 1 = bs [k] := bs_extract _ _ _
        have hx2 : (bs (a :: b :: c :: f :: r')).extract 4 (4 + n) = bs d := by rw [bs_extract, hd, Nat.add_sub_cancel_left]
        have hS : ∀ w, Calls Tryz.prog 34 #[.string ((bs (k :: l)).extract 0 1)] w fun e w' => e = .returned (.int .u32 (sum [k])) ∧ w = w' := fun w => by
          rw [hx1]; exact sum_any (bs [k]) w (by decide : 1 ≤ maxLen)
        have hM : ∀ w, Calls Tryz.prog 57 #[.int .u32 (sum [k]), .string ((bs (a :: b :: c :: f :: r')).extract 4 (4 + n))] w fun e w' => e = .returned (.int .u32 (rsum (k, d))) ∧ w = w' := fun w => by
          rw [hx2]; exact more_of (bs d) (sum [k]) w (by rw [bs_size]; unfold maxLen; omega) (sum_lt _) (more_sum [k] d)
        have HS := Lib.hid hS
        have HM := Lib.hid hM
        have HX := Lib.hid hx2
        clear h2 hd h5 hrl hS hM hx1 hx2
        have step : ∀ (bb : Bool) (v : Value), (((rsum (k, d) : Nat) : Int) != bits .or .u32 (bits .or .u32 (bits .or .u32 ((a.toNat : Int) % 4294967296) ((b.toNat : Int) % 4294967296 * 256 % 4294967296)) ((c.toNat : Int) % 4294967296 * 65536 % 4294967296)) ((f.toNat : Int) % 4294967296 * 16777216 % 4294967296)) = bb →
            Hid ((bb = true → v = nextV (z, [], 4)) ∧ (bb = false → v = nextV ((k, d), (a :: b :: c :: f :: r').drop (4 + n), 0))) → Calls Tryz.prog 51 #[.string (bs (k :: l))] w (RetBelow w v) := by
          intro bb v hbb hv
          go_enter Tryz.func51, Tryz.ntmps51
          go_wp2_with fail
          refine (takeByte_some (bs (k :: l)) _ k l (by rw [bs_size]; unfold maxLen; simp; omega) rfl).mono ?_
          rintro e w' ⟨rfl, n1, rfl⟩
          go_wp2_with fail
          refine (takeMost_of (bs l) 1048576 HT.out _ (by rw [bs_size]; unfold maxLen; omega) (by omega) (by omega)).mono ?_
          rintro e w' ⟨rfl, n2, rfl⟩
          go_wp2_with fail
          go_quiet (fail)
          go_wp2_with fail
          refine (HS.out _).mono ?_
          rintro e w' ⟨rfl, rfl⟩
          go_wp2_with fail
          refine (HM.out _).mono ?_
          rintro e w' ⟨rfl, rfl⟩
          clear hi0 hi1 hi2 hi3
          have hw4 : IntKind.i64.wrap (4 + (n : Int)) = 4 + (n : Int) := IntWalk.i64_in _ ⟨by omega, by omega⟩
          have hp4 : (0 : Int) ≤ 4 + (n : Int) := by omega
          rcases bb with _ | _
          · obtain rfl : v = nextV ((k, d), (a :: b :: c :: f :: r').drop (4 + n), 0) := by simpa using hv.out.2
            clear hv
            go_wp2_with fail
            go_region
            all_goals go_wp2_with fail
            all_goals go_returns
            all_goals
              have HY : (bs (a :: b :: c :: f :: r')).extract (4 + n) (r'.length + 4) = bs ((a :: b :: c :: f :: r').drop (4 + n)) := by
                rw [bs_extract, List.take_of_length_le (by rw [List.length_drop]; simp)]
              exact ⟨by rw [HX.out, HY]; rfl, ((below_drewN ((Below.refl _ _).alloc (Nat.le_refl _) _) _).setCell (by simp) _).setCell (by simp) _⟩
          · obtain rfl : v = nextV (z, [], 4) := by simpa using hv.out.1
            clear hv
            go_wp2_with fail
            go_returns
            exact ⟨rfl, ((below_drewN ((Below.refl _ _).alloc (Nat.le_refl _) _) _).setCell (by simp) _).setCell (by simp) _⟩
        by_cases h3 : rsum (k, d) = num4 (a :: b :: c :: f :: r')
        · rw [if_neg (fun h => h h3)]
          refine step false _ ?_ ⟨fun h => (by cases h), fun _ => rfl⟩
          rw [HN.out, h3]
          simp
        · rw [if_pos h3]
          refine step true _ ?_ ⟨fun _ => rfl, fun h => (by cases h)⟩
          rw [HN.out, bne_iff_ne]
          omega

theorem next_of {l r d : List UInt8} {k : UInt8} {er : Nat} (h : next l = ((k, d), r, er)) (w : World) (hs : l.length ≤ 9223372036854775807) :
    Calls Tryz.prog 51 #[.string (bs l)] w (RetBelow w (.tuple #[.agg #[.int .u8 k.toNat, .string (bs d)], .string (bs r), .int .i64 er])) := by
  have := next_any l w hs
  rw [h] at this
  exact this

def frcs (rs : List Rc) : List Value := rs.flatMap fun r => [.int .u8 r.1.toNat, .string (bs r.2)]
theorem frcs_snoc (rs : List Rc) (k : UInt8) (d : List UInt8) : frcs (rs ++ [(k, d)]) = frcs rs ++ [.int .u8 k.toNat, .string (bs d)] := by simp [frcs]
theorem rec_ty : ElemTy Tryz.prog 23 34 (.agg #[.int .u8 0, .string ByteArray.empty]) 2 24 :=
  ⟨Tryz.underlying23, info_parts (show (Tryz.prog.info? 34).map (fun i => (i.zero, i.size, i.bytes)) = some (some (.agg #[.int .u8 0, .string ByteArray.empty]), 2, 24) by kernel_rfl), rfl⟩

def lenOf : Value → Nat
  | .string s => s.size
  | _ => 0

def RetAll (w : World) (e : TypeId) (rs : List Rc) (n : Int) (en : Ending) (w' : World) : Prop :=
  ∃ v, en = .returned (.tuple #[v, .int .i64 n]) ∧ Buf w' e 2 v rs.length (frcs rs) ∧ Below w.heap.size w w'

set_option maxHeartbeats 1000000 in
set_option maxRecDepth 10000 in
theorem all_any (l : List UInt8) (w : World) (hs : l.length ≤ 1000000000000) :
    Calls Tryz.prog 24 #[.string (bs l)] w (RetAll w 34 (recs l) ((l.length : Int) - ((left l).length : Nat))) := by
  have hll := left_le l
  go_enter Tryz.func24, Tryz.ntmps24
  go_wp2_with fail
  go_loopw [4, 5] (fun v s wr => ∃ (rs : List Rc) (m : List UInt8), s = .string (bs m) ∧ rs.length * 6 + m.length ≤ l.length ∧ App w (.slice none 0 0) 34 2 0 [] wr v rs.length (frcs rs) ∧ Hid (rs ++ recs m = recs l ∧ left m = left l))
    (fun _ s _ => lenOf s)
  case atStart => exact ⟨[], l, rfl, by simp, App.start' (Buf.nil w _ _), rfl, rfl⟩
  case round =>
    obtain ⟨rs, m, rfl, hlen, happ, hr⟩ := hrel
    obtain ⟨k, d, r, er, hn⟩ : ∃ k d r er, next m = ((k, d), r, er) := ⟨_, _, _, _, rfl⟩
    have HN := Lib.hid hn
    by_cases he : er = 0
    · subst he
      have h6 := next_left m (by rw [hn])
      have hg := recs_go (l := m) (by rw [hn])
      rw [hn] at h6 hg
      simp only at h6 hg
      have HG := Lib.hid hg
      clear hg hn
      go_wp2_with fail
      refine (next_of HN.out _ (by omega)).mono ?_
      rintro e w1 ⟨rfl, hb1⟩
      have happ1 := happ.below hb1
      clear happ hb1
      go_wp2_with (at_builtin; refine wpList_append_lit rfl (.tmp 24) (.tmp 26) 23 rfl rec_ty rfl (happ1.alloc _) rfl (by simp) rfl (by simp [Value.oneCell']) (by simp only [maxLen]; omega) (by omega) ?_; intro v2 w2 happ2)
      go_roundw
      case rel => exact ⟨rs ++ [(k, d)], r, rfl, by simp; omega, by rw [frcs_snoc, List.length_append]; exact happ2, by rw [← hr.out.1, HG.out.1]; simp, by rw [← hr.out.2, HG.out.2]⟩
      case measure => simp only [lenOf, bs_size]; omega
    · have hg := recs_stop (l := m) (by rw [hn]; exact he)
      have hb : ((er : Int) != 0) = true := by rw [bne_iff_ne]; omega
      have HG := Lib.hid hg
      clear hg hn he
      go_wp2_with fail
      refine (next_of HN.out _ (by omega)).mono ?_
      rintro e w1 ⟨rfl, hb1⟩
      have happ1 := happ.below hb1
      clear happ hb1
      go_wp2_with fail
      go_ret2
      have e1 : rs = recs l := by rw [← hr.out.1, HG.out.1, List.append_nil]
      have e2 : m = left l := by rw [← hr.out.2, HG.out.2]
      have hbuf := (happ1.alloc (.cells #[.int .u8 k.toNat, .string (bs d)] 34)).buf
      rw [Nat.zero_add, List.nil_append] at hbuf
      subst e1
      exact ⟨_, by rw [← e2]; rfl, hbuf, (happ1.alloc _).below_nil⟩

end Go.Proofs.YtcopknopifbebaaGreatDoor

namespace Go.Proofs.YtcopknopifbebaaGreatDoor
open Go.RowKit Go.Bar

set_option maxHeartbeats 400000 in
theorem cut_any (s : ByteArray) (n : Int) (w : World) (h : 0 ≤ n) (h2 : n ≤ 100000) (hs : s.size ≤ maxLen) :
    Calls Tryz.prog 31 #[.string s, .int .i64 n] w fun e w' => e = .returned (.string (bs (s.data.toList.take n.toNat))) ∧ w = w' := by
  unfold maxLen at hs
  have e1 : s.extract 0 n.toNat = bs (s.data.toList.take n.toNat) := bs_extract s.data.toList 0 n.toNat
  by_cases hn : n < s.size
  · have HE := Lib.hid e1
    clear e1
    go_enter Tryz.func31, Tryz.ntmps31
    go_wp2
    go_ret
    rw [← HE.out]
    exact ⟨rfl, rfl⟩
  · have e2 : bs (s.data.toList.take n.toNat) = s := by rw [List.take_of_length_le (by rw [← size_eq]; omega)]; rfl
    have HE := Lib.hid e2
    clear e1 e2
    go_enter Tryz.func31, Tryz.ntmps31
    go_wp2
    go_ret
    rw [HE.out]
    exact ⟨rfl, rfl⟩

end Go.Proofs.YtcopknopifbebaaGreatDoor

namespace Go.Proofs.YtcopknopifbebaaGreatDoor
open Go.RowKit Go.Bar Go.Bar.Leb

set_option maxHeartbeats 400000 in
set_option maxRecDepth 10000 in
theorem refUint_any (n : Nat) (W : World) (hn : n < 18446744073709551616) :
    Calls Tryz.prog 131 #[.int .u64 n] W (RetBelow W (.string (bs (u n)))) := by
  have hul := u_len n hn
  go_enter Tryz.func131, Tryz.ntmps131
  go_wp2
  go_loopw [0, 3, 4] (fun v s i wr => ∃ (k c : Nat) (ys : List UInt8), c ≤ 9 ∧ k * 128 ^ c < 18446744073709551616 ∧ ys.length = c ∧ v = .int .u64 k ∧ s = .string (bs ys) ∧ i = .int .i64 c ∧ ys ++ u k = u n ∧ Below W.heap.size W wr) (fun _ _ i _ => 9 - (intOf i).toNat)
  case atStart => exact ⟨n, 0, [], by omega, by simpa using hn, rfl, rfl, rfl, rfl, rfl, Below.refl _ _⟩
  case round =>
    obtain ⟨k, c, ys, hc, hk, hys, rfl, rfl, rfl, hu, hbl⟩ := hrel
    have HU := Lib.hid hu
    have HL := Lib.hid hys
    have hyl : ys.length ≤ 9 := by omega
    have hk64 : k < 18446744073709551616 := by have := Nat.le_mul_of_pos_right k (show 0 < 128 ^ c from Nat.pow_pos (by omega)); omega
    clear hu hys
    by_cases hlt : c < 9 ∧ 127 < k
    · obtain ⟨hlt1, hlt2⟩ := hlt
      have HK := Lib.hid hk
      clear hk
      obtain ⟨b, hb⟩ : ∃ b, b = UInt8.ofNat (k % 128 + 128) := ⟨_, rfl⟩
      have hbn : b.toNat = k % 128 + 128 := by rw [hb, UInt8.toNat_ofNat']; omega
      have hc1 := fun w => conv_one bytes_ty 9 Tryz.underlying9 w (128 + (k : Int) % 128) b (by omega)
      have HB := Lib.hid hb
      clear hb hbn
      go_wp2
      go_roundw
      case rel =>
        refine ⟨k / 128, c + 1, ys ++ [b], by omega, ?_, by rw [List.length_append, HL.out]; rfl, by go_num, rfl, by go_num, ?_, hbl.alloc hbl.size _⟩
        · have := HK.out
          rw [Nat.pow_succ, Nat.mul_comm (128 ^ c) 128, ← Nat.mul_assoc]
          have := Nat.mul_le_mul_right (128 ^ c) (show k / 128 * 128 ≤ k by omega)
          omega
        · rw [← HU.out, u_ge (n := k) (by omega), List.append_assoc, HB.out]; rfl
      case measure => simp [intOf]; omega
    · have hk128 : k ≤ 127 := by
        rcases (show c = 9 ∨ c < 9 by omega) with rfl | h
        · omega
        · omega
      obtain ⟨b, hb⟩ : ∃ b, b = UInt8.ofNat k := ⟨_, rfl⟩
      have hbn : b.toNat = k := by rw [hb, UInt8.toNat_ofNat']; omega
      have hc1 := fun w => conv_one bytes_ty 9 Tryz.underlying9 w (k : Int) b (by omega)
      have HB := Lib.hid hb
      clear hk hb hbn
      go_wp2
      all_goals go_ret
      all_goals
        refine ⟨?_, hbl.alloc hbl.size _⟩
        rw [← HU.out, u_lt (n := k) (by omega), ← HB.out]
        rfl

set_option maxHeartbeats 400000 in
set_option maxRecDepth 10000 in
theorem refTakeUint_any (s : ByteArray) (w : World) (hs : s.size ≤ maxLen) :
    Calls Tryz.prog 129 #[.string s] w (Quiet w (.tuple #[.int .u64 (takeU s.data.toList).1, .string (bs (takeU s.data.toList).2.1), .int .i64 (takeU s.data.toList).2.2])) := by
  unfold maxLen at hs
  go_enter Tryz.func129, Tryz.ntmps129
  go_wp2
  go_loopw [5, 6, 7] (fun v t i wr => ∃ k acc p : Nat, k ≤ s.size ∧ k ≤ 9 ∧ acc < 128 ^ k ∧ p = 128 ^ k ∧ v = .int .u64 acc ∧ t = .int .u64 p ∧ i = .int .i64 k ∧ wr = w ∧ tk k acc (s.data.toList.drop k) = takeU s.data.toList)
    (fun _ _ i _ => s.size - (intOf i).toNat)
  case atStart => exact ⟨0, 0, 1, Nat.zero_le _, by omega, by simp, rfl, rfl, rfl, rfl, rfl, rfl⟩
  case round =>
    obtain ⟨k, acc, p, hk, hk9, hacc, hp, rfl, rfl, rfl, rfl, htk⟩ := hrel
    have HT := Lib.hid htk
    have HP := Lib.hid hp
    clear htk hp
    by_cases hlt : k < s.size
    · rw [drop_cons s k hlt] at HT
      have hc := UInt8.toNat_lt s[k]
      go_wp2
      case roundEnd =>
        have h9 : ¬ (k : Int) = 9 := by assumption
        have h1 : (128 : Int) ≤ s[k].toNat := by assumption
        refine ⟨⟨k + 1, _, _, by omega, by omega, acc_lt acc k _ hacc, rfl, by rw [acc_step2 acc k _ p hacc hk9 (by omega) HP.out], by rw [unit_step k p (by omega) HP.out], by go_num, trivial, ?_⟩, by simp [intOf]; omega⟩
        rw [← HT.out, tk_more (by omega) (by omega)]
      all_goals (try (go_quiet (fail); go_wp2))
      all_goals go_ret3
      all_goals first
        | exact Quiet.of (takeU_bad hlt HT (by omega)) ⟨0, rfl⟩
        | exact Quiet.of (takeU_last2 hlt HT (by omega) (by omega) (by omega) _ _ (acc_step2 acc k _ p hacc hk9 (by omega) HP.out) (by omega)) ⟨_, rfl⟩
        | exact Quiet.of (takeU_last2 hlt HT (by omega) (by omega) (by omega) _ _ (wrap_acc hacc (by omega) (by omega)) (by omega)) ⟨_, rfl⟩
    · go_wp2
      go_ret3
      have e : s.data.toList.drop k = [] := List.drop_eq_nil_of_le (by rw [← size_eq]; omega)
      rw [← HT.out, e]
      exact Quiet.same

theorem refTakeUint_of {v e : Nat} {r : List UInt8} (s : ByteArray) (h : takeU s.data.toList = (v, r, e)) (w : World) (hs : s.size ≤ maxLen) :
    Calls Tryz.prog 129 #[.string s] w (Quiet w (.tuple #[.int .u64 v, .string (bs r), .int .i64 e])) := by
  have := refTakeUint_any s w hs
  rw [h] at this
  exact this

set_option maxHeartbeats 400000 in
theorem refTakeMost_any (s : ByteArray) (most : Int) (w : World) (hs : s.size ≤ maxLen) (h1 : -9223372036854775808 ≤ most) (h2 : most ≤ 9223372036854775807) :
    Calls Tryz.prog 98 #[.string s, .int .i64 most] w (Quiet w (.tuple #[.int .i64 (takeMost s.data.toList most).1, .string (bs (takeMost s.data.toList most).2.1), .int .i64 (takeMost s.data.toList most).2.2])) := by
  have hp := takeU_prop s.data.toList
  unfold takeMost
  obtain ⟨v, r, er, ht⟩ : ∃ v r er, takeU s.data.toList = (v, r, er) := ⟨_, _, _, rfl⟩
  have HT := Lib.hid ht
  rw [ht] at hp ⊢
  clear ht
  obtain ⟨hv, _, he⟩ := hp
  simp only [] at hv he ⊢
  rcases he with rfl | ⟨he, rfl, rfl⟩
  · by_cases hm : (max most 0).toNat < v
    · rw [if_pos ⟨rfl, hm⟩]
      go_enter Tryz.func98, Tryz.ntmps98
      go_wp2_with fail
      refine (refTakeUint_of s HT.out _ hs).mono ?_
      rintro e w' ⟨rfl, n, rfl⟩
      go_wp2_with fail
      all_goals go_ret3
      all_goals exact ⟨rfl, _, rfl⟩
    · rw [if_neg (fun h => hm h.2)]
      have hv2 : v ≤ 9223372036854775807 := by omega
      go_enter Tryz.func98, Tryz.ntmps98
      go_wp2_with fail
      refine (refTakeUint_of s HT.out _ hs).mono ?_
      rintro e w' ⟨rfl, n, rfl⟩
      go_wp2_with fail
      all_goals go_ret3
      all_goals exact ⟨rfl, _, rfl⟩
  · rw [if_neg (fun h => by omega)]
    have hb : ((er : Int) == 0) = false := by rw [beq_eq_false_iff_ne]; omega
    clear he
    go_enter Tryz.func98, Tryz.ntmps98
    go_wp2_with fail
    refine (refTakeUint_of s HT.out _ hs).mono ?_
    rintro e w' ⟨rfl, n, rfl⟩
    go_wp2_with fail
    all_goals go_ret3
    all_goals exact ⟨rfl, _, rfl⟩

theorem refTakeMost_of {v e : Nat} {r : List UInt8} (s : ByteArray) (most : Int) (h : takeMost s.data.toList most = (v, r, e)) (w : World) (hs : s.size ≤ maxLen) (h1 : -9223372036854775808 ≤ most) (h2 : most ≤ 9223372036854775807) :
    Calls Tryz.prog 98 #[.string s, .int .i64 most] w (Quiet w (.tuple #[.int .i64 v, .string (bs r), .int .i64 e])) := by
  have := refTakeMost_any s most w hs h1 h2
  rw [h] at this
  exact this

end Go.Proofs.YtcopknopifbebaaGreatDoor

namespace Go.Proofs.YtcopknopifbebaaGreatDoor
open Go.RowKit Go.Bar Go.Bar.Leb Go.Bar.Frm

theorem ref_yes {D y : Nat} (hD : D < 4294967296) (h : (((D : Int) + (y : Int)) % 2 == 1) = true) : bits .xor .u32 ((D : Int) / 2) 2197175160 = ((bstep D y : Nat) : Int) := by
  rw [beq_iff_eq] at h
  unfold bstep
  rw [if_pos (by omega)]
  have := u32_xor_nat (D / 2) 2197175160 (by omega) (by omega)
  rw [← this]
  rfl
theorem ref_no {D y : Nat} (h : (((D : Int) + (y : Int)) % 2 == 1) = false) : (D : Int) / 2 = ((bstep D y : Nat) : Int) := by
  rw [beq_eq_false_iff_ne] at h
  unfold bstep
  rw [if_neg (by omega)]
  rfl

set_option maxHeartbeats 1000000 in
set_option maxRecDepth 10000 in
theorem refSum_any (s : ByteArray) (w : World) (hs : s.size ≤ 1000000000000) :
    Calls Tryz.prog 130 #[.string s] w (RetBelow w (.int .u32 (sum s.data.toList))) := by
  go_enter Tryz.func130, Tryz.ntmps130
  go_wp2_with ((with_reducible refine wpList_bytes rfl (.tmp 8) 65 9 rfl bytes_ty Tryz.underlying9 s rfl (by unfold maxLen; omega) ?_); intro v w1 hb hbl hown; obtain ⟨A, c, rfl, hle⟩ := Buf.shape hb; clear hown)
  go_loop [3, 11] (fun c i => ∃ k C : Nat, k ≤ s.data.toList.length ∧ i = .int .i64 k ∧ C < 4294967296 ∧ c = .int .u32 C ∧ Hid (C = crc (no 0) (s.data.toList.take k))) (fun _ i => s.data.toList.length - (intOf i).toNat)
  case atStart => exact ⟨0, 4294967295, Nat.zero_le _, rfl, by omega, rfl, rfl⟩
  case round =>
    obtain ⟨k, C, hk, rfl, hC, rfl, HC⟩ := hrel
    by_cases hlt : k < s.data.toList.length
    · obtain ⟨b, o, rfl, hbw, hc⟩ := Buf.cell hb (by omega)
      obtain ⟨x, hx⟩ : ∃ x, s.data.toList[k]? = some x := ⟨_, List.getElem?_eq_getElem hlt⟩
      have hck : w1.cell? ⟨b, o + k, none⟩ = some (.int .u8 x.toNat) := by rw [hc k (by omega)]; simp only [bcs, List.getElem?_map, hx]; rfl
      have hx2 := UInt8.toNat_lt x
      have HX := Lib.hid hx
      clear hc hx
      go_wp2
      go_loop [3, 5, 6] (fun c b i => ∃ j D y : Nat, j ≤ 8 ∧ i = .int .i64 j ∧ D < 4294967296 ∧ y < 256 ∧ c = .int .u32 D ∧ b = .int .u8 y ∧ Hid (D = bsteps j C x.toNat ∧ y = x.toNat / 2 ^ j)) (fun _ _ i => 8 - (intOf i).toNat)
      case atStart => exact ⟨0, C, x.toNat, by omega, rfl, hC, hx2, rfl, rfl, rfl, by simp⟩
      case round =>
        obtain ⟨j, D, y, hj, rfl, hD, hy, rfl, rfl, HD⟩ := hrel
        by_cases hj8 : j < 8
        · go_wp2
          all_goals
            go_round
            case rel => exact ⟨j + 1, bstep D y, y / 2, by omega, by go_num, bstep_lt hD, by omega, by first | rw [ref_yes hD (by assumption)] | rw [ref_no (by assumption)], rfl, by rw [HD.out.1, HD.out.2]; rfl, by rw [HD.out.2, Nat.div_div_eq_div_mul, Nat.pow_succ]⟩
            case measure => simp [intOf]; omega
        · obtain rfl : j = 8 := by omega
          go_wp2
          go_round
          case rel => exact ⟨k + 1, D, by omega, by go_num, hD, rfl, by
            obtain ⟨h1, h2⟩ := List.getElem?_eq_some_iff.1 HX.out
            show D = _
            rw [HD.out.1, HC.out, List.take_succ_eq_append_getElem h1, crc_snoc, h2]⟩
          case measure => simp [intOf]; omega
    · go_wp2
      go_ret
      refine ⟨?_, hbl⟩
      rw [List.take_of_length_le (by omega)] at HC
      have := crc_lt s.data.toList (no_lt 0)
      have e : (4294967295 - (C : Int)) = ((sum s.data.toList : Nat) : Int) := by
        rw [HC.out]; unfold sum more
        show _ = ((4294967295 - crc (no 0) s.data.toList : Nat) : Int)
        omega
      rw [← e]
      rfl

theorem sum4_next (S j : Nat) (h : j < 4) : (sum4 S).take (j + 1) = (sum4 S).take j ++ [UInt8.ofNat (S / 256 ^ j)] := by
  rcases j with _ | _ | _ | _ | j <;> first | (exfalso; omega) | simp [sum4]

set_option maxHeartbeats 1000000 in
set_option maxRecDepth 10000 in
theorem refBytes_any (k : UInt8) (d : List UInt8) (W : World) (hd : d.length ≤ 100000000000) :
    Calls Tryz.prog 99 #[.agg #[.int .u8 k.toNat, .string (bs d)]] W (RetBelow W (.string (bs (rec (k, d))))) := by
  have hc1 := conv_one bytes_ty 9 Tryz.underlying9 (W.alloc (.cells #[.int .u8 k.toNat, .string (bs d)] 78)) (k.toNat : Int) k rfl
  rw [show (W.alloc (.cells #[.int .u8 k.toNat, .string (bs d)] 78)).heap.size = W.heap.size + 1 by simp] at hc1
  have hul := u_len d.length (by omega)
  go_enter Tryz.func99, Tryz.ntmps99
  go_wp2_with fail
  refine (refSum_any (bs (k :: d)) _ (by rw [bs_size]; simp; omega)).mono ?_
  rintro e w1 ⟨rfl, hb1⟩
  have c1 : w1.cell? ⟨W.heap.size, 1, none⟩ = some (.string (bs d)) := by rw [hb1.cell (by simp; omega)]; simp
  have hbl : Below (W.alloc (.cells #[.int .u8 k.toNat, .string (bs d)] 78)).heap.size (W.alloc (.cells #[.int .u8 k.toNat, .string (bs d)] 78)) w1 := ((Below.refl _ _).alloc (Nat.le_refl _) _).trans (hb1.mono (by simp))
  clear hb1 hc1
  go_wp2_with fail
  refine (refUint_any d.length _ (by omega)).mono ?_
  rintro e w2 ⟨rfl, hb2⟩
  have hbl := below_trans hbl hb2
  clear hb2 c1
  have hS := sum_lt (k :: d)
  rw [bs_data]
  obtain ⟨S, hSe⟩ : ∃ S, S = sum (k :: d) := ⟨_, rfl⟩
  rw [← hSe] at hS ⊢
  have HS := Lib.hid hSe
  clear hSe
  go_wp2_with fail
  go_loopw [4, 5, 6] (fun m s i wr => ∃ (j M : Nat), j ≤ 4 ∧ i = .int .i64 j ∧ M < 4294967296 ∧ m = .int .u32 M ∧ s = .string (bs (k :: (u d.length ++ (sum4 S).take j))) ∧ Hid (M = S / 256 ^ j) ∧ Below (W.alloc (.cells #[.int .u8 k.toNat, .string (bs d)] 78)).heap.size (W.alloc (.cells #[.int .u8 k.toNat, .string (bs d)] 78)) wr)
    (fun _ _ i _ => 4 - (intOf i).toNat)
  case atStart => exact ⟨0, S, by omega, rfl, hS, rfl, by simp, (by simp : S = S / 256 ^ 0), hbl⟩
  case round =>
    obtain ⟨j, M, hj, rfl, hM, rfl, rfl, HM, hbr⟩ := hrel
    clear hbl
    have c1 : wr.cell? ⟨W.heap.size, 1, none⟩ = some (.string (bs d)) := by rw [hbr.cell (by simp)]; simp
    by_cases hj4 : j < 4
    · have hc1 := fun w => conv_one bytes_ty 9 Tryz.underlying9 w ((M : Int) % 256) (UInt8.ofNat M) (by simp)
      go_wp2_with fail
      go_roundw
      case rel => exact ⟨j + 1, M / 256, by omega, by go_num, by omega, rfl, by rw [sum4_next S j hj4, HM.out], (by rw [HM.out, Nat.div_div_eq_div_mul, Nat.pow_succ] : M / 256 = S / 256 ^ (j + 1)), hbr.alloc hbr.size _⟩
      case measure => simp [intOf]; omega
    · obtain rfl : j = 4 := by omega
      go_wp2_with fail
      go_ret
      refine ⟨?_, ((Below.refl _ _).alloc (Nat.le_refl _) _).trans (hbr.mono (by simp))⟩
      have e : bs (k :: (u d.length ++ (sum4 S ++ d))) = bs (rec (k, d)) := by simp [rec, rsum, HS.out]
      rw [← e]
      rfl

theorem refNext_bytes (k : UInt8) (l : List UInt8) (n : Nat) (r : List UInt8) (h : takeMost l 1048576 = (n, r, 0)) (h2 : 4 + n ≤ r.length) :
    rec (k, (r.drop 4).take n) = (k :: l).take (rec (k, (r.drop 4).take n)).length ↔ rsum (k, (r.drop 4).take n) = num4 r := by
  have ho := takeMost_one l 1048576 (by rw [h])
  rw [h] at ho
  simp only at ho
  have hd : ((r.drop 4).take n).length = n := by rw [List.length_take, List.length_drop]; omega
  have hl : rec (k, (r.drop 4).take n) = k :: (u n ++ (sum4 (rsum (k, (r.drop 4).take n)) ++ (r.drop 4).take n)) := by simp [rec, hd]
  have hll : (rec (k, (r.drop 4).take n)).length = (u n).length + 4 + n + 1 := by rw [rec_len, hd]; omega
  have e : (k :: l).take ((u n).length + 4 + n + 1) = k :: (u n ++ (r.take 4 ++ (r.drop 4).take n)) := by
    rw [List.take_succ_cons, ← ho, show (u n).length + 4 + n = (u n).length + (4 + n) by omega, List.take_length_add_append, List.take_add]
  rw [hll, e, hl]
  constructor
  · intro he
    have h3 := List.append_cancel_left (List.cons.inj he).2
    have h4 := (List.append_inj h3 (by rw [sum4_len, List.length_take]; omega)).1
    have h5 := congrArg num4 h4
    have h6 := num4_sum4 (rsum (k, (r.drop 4).take n)) (sum_lt _) []
    rw [List.append_nil] at h6
    rw [h6] at h5
    rw [h5]
    match r, h2 with
    | a :: b :: c :: f :: r', _ => rfl
    | [], h | [_], h | [_, _], h | [_, _, _], h => simp at h <;> omega
  · intro he
    rw [he, sum4_num4 r (by omega)]
theorem refNext_len (k : UInt8) (l : List UInt8) (n : Nat) (r : List UInt8) (h : takeMost l 1048576 = (n, r, 0)) (h2 : 4 + n ≤ r.length) :
    (rec (k, (r.drop 4).take n)).length ≤ l.length + 1 ∧ (k :: l).drop (rec (k, (r.drop 4).take n)).length = r.drop (4 + n) := by
  have ho := takeMost_one l 1048576 (by rw [h])
  rw [h] at ho
  simp only at ho
  have hd : ((r.drop 4).take n).length = n := by rw [List.length_take, List.length_drop]; omega
  have hll : (rec (k, (r.drop 4).take n)).length = (u n).length + 4 + n + 1 := by rw [rec_len, hd]; omega
  have := congrArg List.length ho
  rw [List.length_append] at this
  refine ⟨by rw [hll]; omega, ?_⟩
  rw [hll, List.drop_succ_cons, ← ho, show (u n).length + 4 + n = (u n).length + (4 + n) by omega, List.drop_length_add_append]

set_option maxHeartbeats 1000000 in
set_option maxRecDepth 10000 in
theorem refNext_any (l : List UInt8) (w : World) (hs : l.length ≤ 1000000000000) :
    Calls Tryz.prog 85 #[.string (bs l)] w (RetBelow w (nextV (next l))) := by
  match l with
  | [] =>
    have he : (bs []).toList.isEmpty = true := bs_isEmpty []
    go_enter Tryz.func85, Tryz.ntmps85
    go_wp2_with fail
    go_returns
    exact ⟨rfl, (Below.refl _ _).alloc (Nat.le_refl _) _⟩
  | k :: l =>
    rw [List.length_cons] at hs
    obtain ⟨n, r, er, ht⟩ : ∃ n r er, takeMost l 1048576 = (n, r, er) := ⟨_, _, _, rfl⟩
    have hp := takeMost_prop l 1048576 (by omega)
    have hn1 : (takeMost l 1048576).2.2 = 0 → (takeMost l 1048576).1 ≤ 1048576 := takeMost_le l 1048576
    have hq1 := refNext_bytes k l n r
    have hq2 := refNext_len k l n r
    rw [next, ht]
    rw [ht] at hp hn1
    simp only at hp hn1 ⊢
    obtain ⟨hv, hrl, he⟩ := hp
    have hT : ∀ w, Calls Tryz.prog 98 #[.string ((bs (k :: l)).extract 1 (l.length + 1)), .int .i64 1048576] w (Quiet w (.tuple #[.int .i64 n, .string (bs r), .int .i64 er])) := fun w => by
      have e : (bs (k :: l)).extract 1 (l.length + 1) = bs l := by rw [bs_extract]; simp
      rw [e]
      exact refTakeMost_of (bs l) 1048576 ht w (by rw [bs_size]; unfold maxLen; omega) (by omega) (by omega)
    have HT := Lib.hid hT
    have h0 : (bs (k :: l)).toList.isEmpty = false := bs_isEmpty _
    have hsz : (bs (k :: l)).size = l.length + 1 := rfl
    clear hT
    by_cases h1 : er ≠ 0
    · rw [if_pos h1]
      have hb : ((er : Int) != 0) = true := by rw [bne_iff_ne]; omega
      clear h1 he hn1 ht hq1 hq2
      go_enter Tryz.func85, Tryz.ntmps85
      go_wp2_with fail
      refine (HT.out _).mono ?_
      rintro e w' ⟨rfl, n2, rfl⟩
      go_wp2_with fail
      go_returns
      exact ⟨rfl, ((below_drewN ((Below.refl _ _).alloc (Nat.le_refl _) _) _).setCell (by simp) _).setCell (by simp) _⟩
    · rw [if_neg h1]
      obtain rfl : er = 0 := by omega
      have hn2 := hn1 rfl
      clear h1 he hn1
      by_cases h2 : r.length < 4 + n
      · rw [if_pos h2]
        clear ht hq1 hq2
        go_enter Tryz.func85, Tryz.ntmps85
        go_wp2_with fail
        refine (HT.out _).mono ?_
        rintro e w' ⟨rfl, n2, rfl⟩
        go_wp2_with fail
        go_returns
        exact ⟨rfl, ((below_drewN ((Below.refl _ _).alloc (Nat.le_refl _) _) _).setCell (by simp) _).setCell (by simp) _⟩
      · rw [if_neg h2]
        have hq1 := hq1 ht (by omega)
        obtain ⟨hq2, hq3⟩ := hq2 ht (by omega)
        have h4 : 4 + n ≤ r.length := by omega
        obtain ⟨d, hd⟩ : ∃ d, d = (r.drop 4).take n := ⟨_, rfl⟩
        rw [← hd] at hq1 hq2 hq3 ⊢
        have hdl : d.length ≤ 1048576 := by rw [hd]; exact Nat.le_trans (List.length_take_le _ _) hn2
        have hx2 : (bs r).extract 4 (4 + n) = bs d := by rw [bs_extract, hd, Nat.add_sub_cancel_left]
        have hi0 := index_bs Tryz.underlying9 .i64 (k :: l) 0 0 k rfl rfl
        have hB : ∀ w, Calls Tryz.prog 99 #[.agg #[.int .u8 k.toNat, .string ((bs r).extract 4 (4 + n))]] w (RetBelow w (.string (bs (rec (k, d))))) := fun w => by
          rw [hx2]; exact refBytes_any k d w (by omega)
        have HB := Lib.hid hB
        have hw4 : IntKind.i64.wrap (4 + (n : Int)) = 4 + (n : Int) := IntWalk.i64_in _ ⟨by omega, by omega⟩
        have hp4 : (0 : Int) ≤ 4 + (n : Int) := by omega
        have hp5 : 4 + (n : Int) ≤ r.length := by omega
        have HX := Lib.hid hx2
        have HQ := Lib.hid hq1
        have HQ3 := Lib.hid hq3
        have hxa : (bs (k :: l)).extract 0 (rec (k, d)).length = bs ((k :: l).take (rec (k, d)).length) := by rw [bs_extract, List.drop_zero, Nat.sub_zero]
        have HXA := Lib.hid hxa
        clear h2 hd hB ht hx2 hq1 hq3 hxa
        have step : ∀ (bb : Bool) (v : Value), Hid (decide (rec (k, d) = (k :: l).take (rec (k, d)).length) = bb) →
            Hid ((bb = false → v = nextV (z, [], 4)) ∧ (bb = true → v = nextV ((k, d), r.drop (4 + n), 0))) → Calls Tryz.prog 85 #[.string (bs (k :: l))] w (RetBelow w v) := by
          intro bb v hbb hv
          go_enter Tryz.func85, Tryz.ntmps85
          go_wp2_with fail
          refine (HT.out _).mono ?_
          rintro e w' ⟨rfl, n2, rfl⟩
          go_wp2_with fail
          go_region
          all_goals go_wp2_with fail
          all_goals
            refine (HB.out _).mono ?_
            rintro e w1 ⟨rfl, hb1⟩
            have a0 : w1.cell? ⟨w.heap.size, 0, none⟩ = some (.int .u8 0) := by rw [hb1.cell (by simp; omega)]; simp [go_sem]
            have a1 : w1.cell? ⟨w.heap.size, 1, none⟩ = some (.string { data := #[] }) := by rw [hb1.cell (by simp; omega)]; simp [go_sem]
            have a2 : w1.cell? ⟨w.heap.size + 1, 0, none⟩ = some (.int .u8 k.toNat) := by rw [hb1.cell (by simp)]; simp [go_sem]
            have a3 : w1.cell? ⟨w.heap.size + 1, 1, none⟩ = some (.string ((bs r).extract 4 (4 + n))) := by rw [hb1.cell (by simp)]; simp [go_sem]
            have f0 : w1.frozen? ⟨w.heap.size, 0, none⟩ = false := by rw [hb1.frozen (by simp; omega)]; simp [go_sem]
            have f1 : w1.frozen? ⟨w.heap.size, 1, none⟩ = false := by rw [hb1.frozen (by simp; omega)]; simp [go_sem]
            have hz1 : w.heap.size + 1 < w1.heap.size := by have := hb1.size; simp at this; omega
            have hcmp : (rec (k, d) == ((bs (k :: l)).extract 0 (rec (k, d)).length).toList) = bb := by
              rw [HXA.out, bs_toList, ← hbb.out]; rw [Bool.eq_iff_iff]; simp
            obtain ⟨r0, r1⟩ := set2 a0 a1
            clear hi0
            rcases bb with _ | _
            · obtain rfl : v = nextV (z, [], 4) := by simpa using hv.out.1
              clear hv hbb
              go_wp2_with fail
              refine bodyPost_ret (v := .tuple #[.agg #[.int .u8 0, .string { data := #[] }], .string { data := #[] }, .int .i64 4]) (by simp [results, Tryz.results85, go_sem, r0, r1]) rfl ⟨rfl, ?_⟩
              exact ((((below_drewN ((Below.refl _ _).alloc (Nat.le_refl _) _) _).alloc (by simp) _).trans (hb1.mono (by simp; omega))).setCell (by simp) _).setCell (by simp) _
            · obtain rfl : v = nextV ((k, d), r.drop (4 + n), 0) := by simpa using hv.out.2
              clear hv hbb
              go_wp2_with fail
              go_region
              all_goals go_wp2_with fail
              all_goals
                refine bodyPost_ret (v := .tuple #[.agg #[.int .u8 k.toNat, .string ((bs r).extract 4 (4 + n))], .string ((bs (k :: l)).extract (rec (k, d)).length (l.length + 1)), .int .i64 0]) (by simp [results, Tryz.results85, go_sem, r0, r1]) rfl ⟨?_, ?_⟩
                · have e : (bs (k :: l)).extract (rec (k, d)).length (l.length + 1) = bs (r.drop (4 + n)) := by
                    rw [bs_extract, ← HQ3.out, List.take_of_length_le (by rw [List.length_drop]; simp)]
                  rw [e, HX.out]
                  rfl
                · exact (((((below_drewN ((Below.refl _ _).alloc (Nat.le_refl _) _) _).alloc (by simp) _).trans (hb1.mono (by simp; omega))).setCell (by simp) _).setCell (by simp) _).drew
        by_cases h3 : rsum (k, d) = num4 r
        · rw [if_neg (fun h => h h3)]
          exact step true _ (decide_eq_true (HQ.out.2 h3)) ⟨fun h => (by cases h), fun _ => rfl⟩
        · rw [if_pos h3]
          exact step false _ (decide_eq_false (fun h => h3 (HQ.out.1 h))) ⟨fun _ => rfl, fun h => (by cases h)⟩

theorem refNext_of {l r d : List UInt8} {k : UInt8} {er : Nat} (h : next l = ((k, d), r, er)) (w : World) (hs : l.length ≤ 1000000000000) :
    Calls Tryz.prog 85 #[.string (bs l)] w (RetBelow w (.tuple #[.agg #[.int .u8 k.toNat, .string (bs d)], .string (bs r), .int .i64 er])) := by
  have := refNext_any l w hs
  rw [h] at this
  exact this

theorem rrec_ty : ElemTy Tryz.prog 76 78 (.agg #[.int .u8 0, .string ByteArray.empty]) 2 24 :=
  ⟨Tryz.underlying76, info_parts (show (Tryz.prog.info? 78).map (fun i => (i.zero, i.size, i.bytes)) = some (some (.agg #[.int .u8 0, .string ByteArray.empty]), 2, 24) by kernel_rfl), rfl⟩

set_option maxHeartbeats 1000000 in
set_option maxRecDepth 10000 in
theorem refAll_any (l : List UInt8) (w : World) (hs : l.length ≤ 1000000000) :
    Calls Tryz.prog 63 #[.string (bs l)] w (RetAll w 78 (recs l) ((l.length : Int) - ((left l).length : Nat))) := by
  have hll := left_le l
  go_enter Tryz.func63, Tryz.ntmps63
  go_wp2_with fail
  go_loopw [4, 5, 6] (fun v s i wr => ∃ (rs : List Rc) (m : List UInt8) (k : Nat), i = .int .i64 k ∧ s = .string (bs m) ∧ rs.length * 6 + m.length ≤ l.length ∧ k ≤ rs.length ∧ App (w.alloc (.cells #[] 78)) (.slice (some ⟨w.heap.size, 0, none⟩) 0 0) 78 2 0 [] wr v rs.length (frcs rs) ∧ Hid (rs ++ recs m = recs l ∧ left m = left l))
    (fun _ s _ _ => lenOf s)
  case atStart => exact ⟨[], l, 0, rfl, rfl, by simp, Nat.le_refl _, App.lit0 w _ _, rfl, rfl⟩
  case round =>
    obtain ⟨rs, m, j, rfl, rfl, hlen, hj, happ, hr⟩ := hrel
    obtain ⟨k, d, r, er, hn⟩ : ∃ k d r er, next m = ((k, d), r, er) := ⟨_, _, _, _, rfl⟩
    have HN := Lib.hid hn
    have hjl : j ≤ l.length := by omega
    by_cases he : er = 0
    · subst he
      have h6 := next_left m (by rw [hn])
      have hg := recs_go (l := m) (by rw [hn])
      rw [hn] at h6 hg
      simp only at h6 hg
      have HG := Lib.hid hg
      clear hg hn
      go_wp2_with fail
      refine (refNext_of HN.out _ (by omega)).mono ?_
      rintro e w1 ⟨rfl, hb1⟩
      have happ1 := happ.below hb1
      clear happ hb1
      go_wp2_with (at_builtin; refine wpList_append_lit rfl (.tmp 26) (.tmp 28) 76 rfl rrec_ty rfl (happ1.alloc _) rfl (by simp) rfl (by simp [Value.oneCell']) (by simp only [maxLen]; omega) (by omega) ?_; intro v2 w2 happ2)
      go_roundw
      case rel => exact ⟨rs ++ [(k, d)], r, j + 1, by go_num, rfl, by simp; omega, by simp; omega, by rw [frcs_snoc, List.length_append]; exact happ2, by rw [← hr.out.1, HG.out.1]; simp, by rw [← hr.out.2, HG.out.2]⟩
      case measure => simp only [lenOf, bs_size]; omega
    · have hg := recs_stop (l := m) (by rw [hn]; exact he)
      have hb : ((er : Int) != 0) = true := by rw [bne_iff_ne]; omega
      have HG := Lib.hid hg
      clear hg hn he
      go_wp2_with fail
      refine (refNext_of HN.out _ (by omega)).mono ?_
      rintro e w1 ⟨rfl, hb1⟩
      have happ1 := happ.below hb1
      clear happ hb1
      go_wp2_with fail
      go_ret2
      have e1 : rs = recs l := by rw [← hr.out.1, HG.out.1, List.append_nil]
      have e2 : m = left l := by rw [← hr.out.2, HG.out.2]
      have happ2 := happ1.alloc (.cells #[.int .u8 k.toNat, .string (bs d)] 78)
      have hbuf := happ2.buf
      rw [Nat.zero_add, List.nil_append] at hbuf
      have hbl := happ2.below_lit0
      subst e1
      exact ⟨_, by rw [← e2]; rfl, hbuf, hbl⟩

end Go.Proofs.YtcopknopifbebaaGreatDoor

namespace Go.Proofs.YtcopknopifbebaaGreatDoor
open Go.RowKit Go.Bar Go.Bar.Leb Go.Bar.Frm

def RecsAt (w : World) (v : Value) (rs : List Rc) : Prop := SlAt w 2 v rs.length (frcs rs)
theorem RecsAt.below {w w' : World} {v : Value} {rs : List Rc} (h : RecsAt w v rs) (hb : Below w.heap.size w w') : RecsAt w' v rs := SlAt.below h hb
theorem RecsAt.shape {w : World} {v : Value} {rs : List Rc} (h : RecsAt w v rs) : ∃ A c, v = .slice A rs.length c ∧ rs.length ≤ c ∧ c ≤ maxLen := SlAt.shape h
theorem RecsAt.at_ {w : World} {A : Option Addr} {n c i : Nat} {rs : List Rc} {k : UInt8} {d : List UInt8} (h : RecsAt w (.slice A n c) rs) (hi : rs[i]? = some (k, d)) : ∃ b o, A = some ⟨b, o, none⟩ ∧ b < w.heap.size ∧ w.cell? ⟨b, o + i * 2, none⟩ = some (.int .u8 k.toNat) ∧ w.cell? ⟨b, o + i * 2 + 1, none⟩ = some (.string (bs d)) := by
  have hlt : i < rs.length := (List.getElem?_eq_some_iff.1 hi).1
  obtain ⟨A', c', he, _⟩ := h.shape
  injection he with h1 h2 h3
  subst h1; subst h2; subst h3
  obtain ⟨b, o, rfl, hb, hc⟩ := SlAt.cells h (by omega)
  obtain ⟨g1, g2⟩ := flat2 (fun r : Rc => Value.int .u8 r.1.toNat) (fun r => .string (bs r.2)) rs i _ hi
  exact ⟨b, o, rfl, hb, hc _ _ g1, hc _ _ g2⟩
theorem rcs_length (rs : List Rc) : (frcs rs).length = rs.length * 2 := flat2_length _ _ rs

set_option maxRecDepth 100000 in
open Go.ChangeShapes Go.WideShapes Go.Deep in
theorem open_recs {H : Type} {enc : TypeId × Value → H} {W : World} {base b0 : Nat} {spare : Nat → Bool} {held : Bool} {r : Reach} {v : Value} {d : DataW H} {p : List MemPlace} (hval : Value.okWide Tryz.prog W r b0 23 v)
    (h : DataW.Trod enc Tryz.prog W base spare held 23 v d p) : ∃ rs, RecsAt W v rs ∧ ∀ r ∈ rs, r.2.length ≤ maxLen := by
  obtain ⟨A, n, c, rfl, hnc, hcm, hx⟩ := open_slice_fields Tryz.underlying23 Tryz.underlying34 (by kernel_rfl) (by kernel_rfl) (Nat.zero_lt_succ 1 : 0 < 2) hval h
  rcases Nat.eq_zero_or_pos n with h0 | h0
  · subst h0
    exact ⟨[], ⟨rfl, A, c, rfl, hnc, hcm, fun h => absurd h (by simp)⟩, by simp⟩
  · obtain ⟨b, o, rfl, hb, hf⟩ := hx h0
    obtain ⟨rs, hl, ht⟩ := list_of (fun i (r : Rc) => W.cell? ⟨b, o + i * 2, none⟩ = some (.int .u8 r.1.toNat) ∧ W.cell? ⟨b, o + i * 2 + 1, none⟩ = some (.string (bs r.2)) ∧ r.2.length ≤ maxLen) n (fun i hi => by
      obtain ⟨x0, y0, k0, c0, t0⟩ := hf i hi 0 _ rfl
      obtain ⟨x1, y1, k1, c1, t1⟩ := hf i hi 1 _ rfl
      obtain ⟨n0, e0, _, w0⟩ := DataW.trod_int Tryz.underlying5 t0
      obtain ⟨s1, e1, e2, ws⟩ := DataW.trod_string Tryz.underlying9 t1
      replace e0 : x0 = _ := (List.cons.inj e0).1
      replace e1 : x1 = _ := (List.cons.inj e1).1
      have b0 := bounds_u8 w0
      subst e0; subst e1
      refine ⟨(UInt8.ofNat n0.toNat, s1.data.toList), ?_, ?_, ?_⟩
      · rw [show ((UInt8.ofNat n0.toNat).toNat : Int) = n0 by simp; omega]; exact c0
      · rw [Nat.add_assoc]; exact c1
      · exact ws)
    refine ⟨rs, ⟨rcs_length rs, some ⟨b, o, none⟩, c, by rw [hl], by rw [hl]; exact hnc, hcm, fun _ => ⟨b, o, rfl, hb, fun j hj => ?_⟩⟩, fun r hr => by obtain ⟨i, hi⟩ := List.mem_iff_getElem?.1 hr; exact (ht i r hi).2.2⟩
    have hlt : j / 2 < rs.length := by omega
    have hg := List.getElem?_eq_getElem hlt
    obtain ⟨g0, g1, _⟩ := ht _ _ hg
    obtain ⟨f0, f1⟩ := flat2 (fun r : Rc => Value.int .u8 r.1.toNat) (fun r => .string (bs r.2)) rs (j / 2) _ hg
    rcases Nat.mod_two_eq_zero_or_one j with hm | hm
    · have e : j / 2 * 2 = j := by omega
      rw [e] at g0 f0
      exact g0.trans f0.symm
    · have e : j / 2 * 2 + 1 = j := by omega
      rw [Nat.add_assoc, e] at g1
      rw [e] at f1
      exact g1.trans f1.symm

attribute [local go_sem ↓] Go.wp_at_zero Go.wp_at_succ

def few (rs : List Rc) : List Rc := (rs.take 6).map fun r => (r.1, r.2.take 60)
def cut60 (rs : List Rc) : List Rc := rs.map fun r => (r.1, r.2.take 60)
theorem cut60_next {rs : List Rc} {k : Nat} {r : Rc} (h : rs[k]? = some r) : cut60 (rs.take (k + 1)) = cut60 (rs.take k) ++ [(r.1, r.2.take 60)] := by
  unfold cut60
  rw [List.take_add_one, h, List.map_append]
  rfl
theorem few_len (rs : List Rc) : (few rs).length ≤ 6 := by simp [few]; omega
theorem few_short (rs : List Rc) : ∀ r ∈ few rs, r.2.length ≤ 60 := by
  intro r hr
  simp only [few, List.mem_map] at hr
  obtain ⟨r', _, rfl⟩ := hr
  exact List.length_take_le _ _

def ends (rs : List Rc) : List Nat := (List.range rs.length).map fun i => (laid (rs.take (i + 1))).length
theorem laid_next {rs : List Rc} {k : Nat} {r : Rc} (h : rs[k]? = some r) : laid (rs.take (k + 1)) = laid (rs.take k) ++ rec r := by
  rw [List.take_add_one, h]
  exact laid_snoc _ _
theorem rec_short (r : Rc) (h : r.2.length ≤ 60) : (rec r).length ≤ 75 := by
  rw [rec_len]
  have := u_len r.2.length (by omega)
  omega
theorem laid_short : ∀ (rs : List Rc), (∀ r ∈ rs, r.2.length ≤ 60) → (laid rs).length ≤ 75 * rs.length
  | [], _ => by simp [laid]
  | r :: rs, h => by
    have h1 := rec_short r (h r (by simp))
    have h2 := laid_short rs (fun r hr => h r (by simp [hr]))
    rw [laid_cons, List.length_append, List.length_cons]
    omega

theorem law_own : ownKnob Tryz.prog.godebug = none := by kernel_rfl
theorem law_laid : laidOutB Tryz.prog = true := by kernel_rfl

end Go.Proofs.YtcopknopifbebaaGreatDoor

namespace Go.Bar.Lab
open Go.RowKit Go.Bar Go.Bar.Leb

abbrev Pr := List UInt8 × List UInt8
def letter (c : UInt8) : Bool := decide (97 ≤ c ∧ c ≤ 122 ∨ 65 ≤ c ∧ c ≤ 90 ∨ c = 95)
def digit (c : UInt8) : Bool := decide (48 ≤ c ∧ c ≤ 57)
def signB (first : Bool) (c : UInt8) : Bool := letter c || (!first && digit c)
def nameB (s : List UInt8) : Bool := !s.isEmpty && signB true (s.headD 0) && s.all (signB false) && decide (s.length ≤ 40)
def okP (p : Pr) : Bool := nameB p.1 && !p.2.isEmpty && decide (p.2.length ≤ 40)
def Ok (l : List Pr) : Prop := 0 < l.length ∧ l.length ≤ 8 ∧ (∀ p ∈ l, okP p = true) ∧ l.Pairwise (fun a b => a.1 < b.1)
instance (l : List Pr) : Decidable (Ok l) := by unfold Ok; infer_instance
def chk (l : List Pr) : Bool := decide (Ok l)

def ins (p : Pr) : List Pr → List Pr
  | [] => [p]
  | q :: r => if p.1 < q.1 then p :: q :: r else q :: ins p r
def srt : List Pr → List Pr → List Pr
  | acc, [] => acc
  | acc, p :: r => srt (ins p acc) r
def sorted (l : List Pr) : List Pr := srt [] l

def tx (l : List UInt8) : List UInt8 := u l.length ++ l
def key (l : List Pr) : List UInt8 := u l.length ++ l.flatMap fun p => tx p.1 ++ tx p.2
def one (p : Pr) : List UInt8 := p.1 ++ 61 :: p.2

def tp : Nat → List UInt8 → List Pr × List UInt8 × Nat
  | 0, s => ([], s, 0)
  | n + 1, s => match takeText s 40 with
    | (a, s1, e1) => if e1 ≠ 0 then ([], [], e1) else match takeText s1 40 with
      | (b, s2, e2) => if e2 ≠ 0 then ([], [], e2) else match tp n s2 with
        | (l, r, e) => if e ≠ 0 then ([], [], e) else ((a, b) :: l, r, 0)
def take (s : List UInt8) : List Pr × List UInt8 × Nat := match takeMost s 8 with
  | (n, r, e) => if e ≠ 0 then ([], [], e) else match tp n r with
    | (l, r, e) => if e ≠ 0 then ([], [], e) else if chk l = true then (l, r, 0) else ([], [], 3)



def commas : List UInt8 → List (List UInt8)
  | [] => [[]]
  | c :: r => if c = 44 then [] :: commas r else match commas r with
    | [] => [[c]]
    | h :: t => (c :: h) :: t
def cutEq : List UInt8 → Option Pr
  | [] => none
  | c :: r => if c = 61 then some ([], r) else (cutEq r).map fun p => (c :: p.1, p.2)
def pairsOf : List (List UInt8) → Option (List Pr)
  | [] => some []
  | s :: r => match cutEq s with
    | none => none
    | some p => (pairsOf r).map (p :: ·)
def parse (s : List UInt8) : List Pr × Nat := match pairsOf (commas s) with
  | none => ([], 3)
  | some l => if chk (sorted l) = true then (sorted l, 0) else ([], 12)

end Go.Bar.Lab

namespace Go.Bar.Wal
open Go.RowKit Go.Bar Go.Bar.Leb Go.Bar.Frm

structure Fi where
  s : List UInt8
  sure : Nat
abbrev Nm := List UInt8
abbrev Fs := List (Nm × Fi)
def fnd : Fs → Nm → Option Fi
  | [], _ => none
  | (m, f) :: r, n => if m = n then some f else fnd r n
def fput : Fs → Nm → Fi → Fs
  | [], n, f => [(n, f)]
  | (m, g) :: r, n, f => if m = n then (n, f) :: r else if n < m then (n, f) :: (m, g) :: r else (m, g) :: fput r n f
def fdel : Fs → Nm → Fs
  | [], _ => []
  | (m, g) :: r, n => if m = n then fdel r n else (m, g) :: fdel r n
theorem fnd_put (fs : Fs) (n : Nm) (f : Fi) (x : Nm) : fnd (fput fs n f) x = if x = n then some f else fnd fs x := by
  induction fs with
  | nil =>
    show (if n = x then some f else none) = _
    by_cases h : x = n
    · rw [if_pos h, if_pos h.symm]
    · rw [if_neg h, if_neg (fun e => h e.symm)]; rfl
  | cons p r ih =>
    obtain ⟨m, g⟩ := p
    unfold fput
    by_cases h1 : m = n
    · rw [if_pos h1]
      show (if n = x then some f else fnd r x) = if x = n then some f else if m = x then some g else fnd r x
      by_cases h : x = n
      · rw [if_pos h, if_pos h.symm]
      · rw [if_neg h, if_neg (fun e => h e.symm), if_neg (fun e => h (e.symm.trans h1))]
    · rw [if_neg h1]
      by_cases h2 : n < m
      · rw [if_pos h2]
        show (if n = x then some f else fnd ((m, g) :: r) x) = _
        by_cases h : x = n
        · rw [if_pos h, if_pos h.symm]
        · rw [if_neg h, if_neg (fun e => h e.symm)]
      · rw [if_neg h2]
        show (if m = x then some g else fnd (fput r n f) x) = if x = n then some f else if m = x then some g else fnd r x
        rw [ih]
        by_cases h : x = n
        · rw [if_pos h, if_pos h, if_neg (fun e => h1 (e.trans h))]
        · rw [if_neg h, if_neg h]
theorem fnd_del (fs : Fs) (n x : Nm) : fnd (fdel fs n) x = if x = n then none else fnd fs x := by
  induction fs with
  | nil => show none = _; split <;> rfl
  | cons p r ih =>
    obtain ⟨m, g⟩ := p
    unfold fdel
    by_cases h1 : m = n
    · rw [if_pos h1, ih]
      by_cases h : x = n
      · rw [if_pos h, if_pos h]
      · rw [if_neg h, if_neg h]
        show _ = if m = x then some g else fnd r x
        rw [if_neg (fun e => h (e.symm.trans h1))]
    · rw [if_neg h1]
      show (if m = x then some g else fnd (fdel r n) x) = if x = n then none else if m = x then some g else fnd r x
      rw [ih]
      by_cases h : x = n
      · rw [if_pos h, if_pos h, if_neg (fun e => h1 (e.trans h))]
      · rw [if_neg h, if_neg h]
def Srt (fs : Fs) : Prop := fs.Pairwise (fun a b => a.1 < b.1)
theorem put_mem {fs : Fs} {n : Nm} {f : Fi} {p : Nm × Fi} (h : p ∈ fput fs n f) : p = (n, f) ∨ p ∈ fs := by
  induction fs with
  | nil => exact .inl (List.mem_singleton.1 h)
  | cons q r ih =>
    obtain ⟨m, g⟩ := q
    unfold fput at h
    split at h
    · rcases List.mem_cons.1 h with h | h
      · exact .inl h
      · exact .inr (List.mem_cons_of_mem _ h)
    · split at h
      · rcases List.mem_cons.1 h with h | h
        · exact .inl h
        · exact .inr h
      · rcases List.mem_cons.1 h with h | h
        · exact .inr (h ▸ List.mem_cons_self ..)
        · rcases ih h with h | h
          · exact .inl h
          · exact .inr (List.mem_cons_of_mem _ h)
theorem del_sub (fs : Fs) (n : Nm) : (fdel fs n).Sublist fs := by
  induction fs with
  | nil => exact List.Sublist.refl _
  | cons q r ih =>
    obtain ⟨m, g⟩ := q
    unfold fdel
    split
    · exact ih.cons _
    · exact ih.cons_cons _
theorem nm_lt_of {a b : Nm} (h1 : a ≠ b) (h2 : ¬ a < b) : b < a := by
  rcases Std.lt_trichotomy a b with h | h | h
  · exact absurd h h2
  · exact absurd h h1
  · exact h
theorem Srt.put {fs : Fs} (h : Srt fs) (n : Nm) (f : Fi) : Srt (fput fs n f) := by
  induction fs with
  | nil => exact List.pairwise_singleton _ _
  | cons q r ih =>
    obtain ⟨m, g⟩ := q
    obtain ⟨h1, h2⟩ := List.pairwise_cons.1 h
    unfold fput
    by_cases e1 : m = n
    · rw [if_pos e1]
      exact List.pairwise_cons.2 ⟨fun p hp => e1 ▸ h1 p hp, h2⟩
    · rw [if_neg e1]
      by_cases e2 : n < m
      · rw [if_pos e2]
        refine List.pairwise_cons.2 ⟨fun p hp => ?_, h⟩
        rcases List.mem_cons.1 hp with hp | hp
        · rw [hp]; exact e2
        · exact List.lt_trans e2 (h1 p hp)
      · rw [if_neg e2]
        refine List.pairwise_cons.2 ⟨fun p hp => ?_, ih h2⟩
        rcases put_mem hp with hp | hp
        · rw [hp]; exact nm_lt_of (fun e => e1 e.symm) e2
        · exact h1 p hp
theorem Srt.del {fs : Fs} (h : Srt fs) (n : Nm) : Srt (fdel fs n) := h.sublist (del_sub fs n)
theorem fnd_none {fs : Fs} {n : Nm} (h : ∀ p ∈ fs, p.1 ≠ n) : fnd fs n = none := by
  induction fs with
  | nil => rfl
  | cons q r ih =>
    obtain ⟨m, g⟩ := q
    show (if m = n then some g else fnd r n) = none
    rw [if_neg (h _ (List.mem_cons_self ..))]
    exact ih fun p hp => h p (List.mem_cons_of_mem _ hp)
theorem fnd_mem {fs : Fs} {n : Nm} {f : Fi} (h : fnd fs n = some f) : (n, f) ∈ fs := by
  induction fs with
  | nil => cases h
  | cons q r ih =>
    obtain ⟨m, g⟩ := q
    have h : (if m = n then some g else fnd r n) = some f := h
    split at h
    · rename_i e
      injection h with h
      rw [e, h]; exact List.mem_cons_self ..
    · exact List.mem_cons_of_mem _ (ih h)
theorem Srt.fnd {fs : Fs} (h : Srt fs) {n : Nm} {f : Fi} (hm : (n, f) ∈ fs) : Wal.fnd fs n = some f := by
  induction fs with
  | nil => cases hm
  | cons q r ih =>
    obtain ⟨m, g⟩ := q
    obtain ⟨h1, h2⟩ := List.pairwise_cons.1 h
    show (if m = n then some g else Wal.fnd r n) = some f
    rcases List.mem_cons.1 hm with hm | hm
    · injection hm with e1 e2
      rw [if_pos e1.symm, e2]
    · have := h1 _ hm
      rw [if_neg (fun e => by rw [e] at this; exact List.lt_irrefl _ this)]
      exact ih h2 hm
theorem fnd_some_iff {fs : Fs} {n : Nm} : (fnd fs n).isSome = true ↔ n ∈ fs.map (·.1) := by
  constructor
  · intro h
    obtain ⟨f, hf⟩ := Option.isSome_iff_exists.1 h
    exact List.mem_map.2 ⟨_, fnd_mem hf, rfl⟩
  · intro h
    cases hc : fnd fs n with
    | some f => rfl
    | none =>
      exfalso
      induction fs with
      | nil => cases h
      | cons q r ih =>
        obtain ⟨m, g⟩ := q
        have hc : (if m = n then some g else fnd r n) = none := hc
        split at hc
        · cases hc
        · rename_i e
          rcases List.mem_cons.1 h with h | h
          · exact e h.symm
          · exact ih h hc

structure Fz where
  q : List (Int × Bool)
  now : Option (Int × Bool)
def Fz.hit (q : List (Int × Bool)) (a : Int) (d : Bool) : (Bool × Bool) × Fz := if 0 < a then ((true, true), ⟨q, some (a - 1, d)⟩) else ((false, d), ⟨q, none⟩)
def Fz.next (z : Fz) : (Bool × Bool) × Fz := match z.now with
  | some (a, d) => Fz.hit z.q a d
  | none => match z.q with
    | [] => ((true, true), z)
    | (a, d) :: q => Fz.hit q a d
def Fz.none_ : Fz := ⟨[], none⟩
def Fz.arm (z : Fz) (a : Int) (d : Bool) : Nat × Fz := if z.q.length < 16 then (0, ⟨z.q ++ [(max a 0, d)], z.now⟩) else (7, z)

structure Ds where
  fs : Fs
  room : Int
  used : Int
  fz : Fz
def Ds.free (d : Ds) : Int := d.room - d.used
def Ds.do_ (d : Ds) (act : Ds → Ds) : Nat × Ds :=
  ((if d.fz.next.1.1 = true then 0 else 8), if d.fz.next.1.2 = true then act { d with fz := d.fz.next.2 } else { d with fz := d.fz.next.2 })
def badName (n : Nm) : Prop := n = [] ∨ 40 < n.length
instance (n : Nm) : Decidable (badName n) := by unfold badName; exact inferInstance
def Fi.z : Fi := ⟨[], 0⟩
def Ds.append (d : Ds) (n : Nm) (s : List UInt8) : Nat × Ds :=
  if badName n then (1, d) else if d.free < s.length then (7, d)
  else d.do_ fun d => { d with fs := fput d.fs n ⟨((fnd d.fs n).getD Fi.z).s ++ s, ((fnd d.fs n).getD Fi.z).sure⟩, used := d.used + s.length }
def Ds.sync (d : Ds) (n : Nm) : Nat × Ds := match fnd d.fs n with
  | none => (5, d)
  | some f => d.do_ fun d => { d with fs := fput d.fs n ⟨f.s, f.s.length⟩ }
def Ds.truncate (d : Ds) (n : Nm) (k : Nat) : Nat × Ds := match fnd d.fs n with
  | none => (5, d)
  | some f => if f.s.length < k then (1, d) else d.do_ fun d => { d with fs := fput d.fs n ⟨f.s.take k, k⟩, used := d.used - (f.s.length - k : Nat) }
def Ds.read (d : Ds) (n : Nm) : List UInt8 × Nat := match fnd d.fs n with
  | none => ([], 5)
  | some f => (f.s, 0)
def Ds.list (d : Ds) (p : Nm) : List Nm := (d.fs.map (·.1)).filter fun n => p.isPrefixOf n
def keepOf (loose : Nat) (c : Option Int) : Nat := match c with
  | none => 0
  | some z => ((z.tmod (loose + 1) + loose + 1).tmod (loose + 1)).toNat
def crashF : Fs → List Int → Fs
  | [], _ => []
  | (n, f) :: r, cs => if f.s.length - f.sure = 0 then (n, f) :: crashF r cs
    else (n, ⟨f.s.take (f.sure + keepOf (f.s.length - f.sure) cs.head?), (f.s.take (f.sure + keepOf (f.s.length - f.sure) cs.head?)).length⟩) :: crashF r cs.tail
def lost : Fs → List Int → Nat
  | [], _ => 0
  | (_, f) :: r, cs => if f.s.length - f.sure = 0 then lost r cs
    else (f.s.length - f.sure - keepOf (f.s.length - f.sure) cs.head?) + lost r cs.tail
def Ds.crash (d : Ds) (cs : List Int) : Ds := { d with fs := crashF d.fs cs, used := d.used - (lost d.fs cs : Nat), fz := Fz.none_ }
end Go.Bar.Wal
