/-
  Layer 8: the walks of ident's functions.
-/
import Derived.Test.YtgabmfibfikdbaaGreatDoorZXorN
import Derived.Test.YtgabmfibfikdbaaGreatDoorZBokN
import Derived.Test.YtgabmfibfikdbaaGreatDoorZLib1
import Derived.Lib.Strings
import Derived.Test.YtgabmfibfikdbaaGreatDoorZLib4
import Derived.Test.YtgabmfibfikdbaaGreatDoorZLib5
import Derived.Lib.Bytealg
import Derived.BigQuiet
import Derived.Deep.QuietTactic
import Derived.Test.YtgabmfibfikdbaaGreatDoorZFrmM
import Derived.Test.YtgabmfibfikdbaaGreatDoorZMrgS
import Derived.RegionTactic
import Derived.ChangeAlike
import Derived.Deep.RegionWith
import Derived.Deep.DeepCutAuto
import Derived.Deep.DrawnRows

namespace Go.Proofs.YtgabmfibfikdbaaGreatDoor
open Go.RowKit Go.Bar Go.Bar.Idt

set_option maxHeartbeats 1000000 in
set_option maxRecDepth 100000 in
theorem slIndexByte_any (s : ByteArray) (c : UInt8) (w : World) :
    Calls Tryz.prog 154 #[.string s, .int .u8 c.toNat] w fun e w' => e = .returned (.int .i64 (Lib.indexByte s.data.toList c)) ∧ w = w' := by
  go_enter Tryz.func154, Tryz.ntmps154
  go_wp2
  rw [run_callFunc_extern Tryz.func169 (by kernel_rfl) (by kernel_rfl) (by kernel_rfl) (e := Extern.BytealgIndexByte.indexByte) (by kernel_rfl), Lib.run_indexByteString]
  simp only [Result.andThen]
  rw [Oper.upon_value]
  go_wp2
  go_ret
  exact ⟨by simp, rfl⟩

set_option maxHeartbeats 400000 in
theorem indexByte_any (s : ByteArray) (c : UInt8) (w : World) :
    Calls Tryz.prog 142 #[.string s, .int .u8 c.toNat] w fun e w' => e = .returned (.int .i64 (Lib.indexByte s.data.toList c)) ∧ w = w' := by
  go_enter Tryz.func142, Tryz.ntmps142
  go_wp2_with fail
  refine (slIndexByte_any s c _).mono ?_
  rintro e w' ⟨rfl, rfl⟩
  go_wp2_with fail
  go_ret
  exact ⟨rfl, rfl⟩

theorem sgn_get (k : Nat) (h : k < (bs signs).size) : (bs signs)[k]'h = sgn k := by
  unfold sgn
  rw [List.getD_eq_getElem?_getD, List.getElem?_eq_getElem h]
  rfl
theorem and31 (n : Nat) (h : n < 9223372036854775808) : bits .and .i64 (n : Int) 31 = ((n % 32 : Nat) : Int) := by
  have := i64_and_nat n 31 h (by omega)
  rw [show n &&& 31 = n % 2 ^ 5 from Nat.and_two_pow_sub_one_eq_mod n 5] at this
  exact this
theorem bcs_set (l : List UInt8) (i : Nat) (c : UInt8) : bcs (l.set i c) = (bcs l).set i (.int .u8 (c.toNat : Int)) := List.map_set

set_option maxHeartbeats 1000000 in
set_option maxRecDepth 10000 in
theorem digits_any (n : Nat) (w : World) (hn : n < 1099511627776) :
    Calls Tryz.prog 69 #[.int .i64 n] w (RetBelow w (.string (bs (dg 8 n)))) := by
  go_enter Tryz.func69, Tryz.ntmps69
  go_wp2_with fail
  go_loopw [0, 4] (fun m i wr => ∃ (q k : Nat) (l : List UInt8), q ≤ 8 ∧ (q = 0 ∧ i = .int .i64 (-1) ∨ ∃ p, q = p + 1 ∧ i = .int .i64 (p : Int)) ∧ m = .int .i64 k ∧ k < 1099511627776 ∧ l.length = 8 ∧ Buf wr 195 1 (.slice (some ⟨w.heap.size, 0, none⟩) 8 8) 8 (bcs l) ∧ Below w.heap.size w wr ∧ Hid (k = n / 32 ^ (8 - q) ∧ l.drop q = dg (8 - q) n))
    (fun _ i _ => (intOf i + 1).toNat)
  case atStart => exact ⟨8, n, List.replicate 8 0, Nat.le_refl _, .inr ⟨7, rfl, rfl⟩, rfl, hn, rfl, Buf.lit w _ 1 8 [.int .u8 0, .int .u8 0, .int .u8 0, .int .u8 0, .int .u8 0, .int .u8 0, .int .u8 0, .int .u8 0] rfl (by decide), (Below.refl _ _).alloc (Nat.le_refl _) _, (by simp : n = n / 32 ^ 0), rfl⟩
  case round =>
    obtain ⟨q, k, l, hq, hi, rfl, hk, hll, hb, hbl, HK⟩ := hrel
    rcases hi with ⟨rfl, rfl⟩ | ⟨p, rfl, rfl⟩
    · have hl : l = dg 8 n := HK.out.2
      have hsl : SlAt wr 1 (.slice (some ⟨w.heap.size, 0, none⟩) l.length 8) l.length (bcs l) := by rw [hll]; exact SlAt.of_buf hb
      have hcv := hsl.string bytes_ty 9 Tryz.underlying9
      rw [hll] at hcv
      have HL := Lib.hid hl
      clear hsl hl hb
      go_wp2_with fail
      go_ret
      rw [← HL.out]
      exact ⟨rfl, hbl⟩
    · have hand := and31 k (by omega)
      have h32 : k % 32 < (bs signs).size := by rw [bs_size, signs_length]; omega
      have hst := Buf.store hb (j := p) (by omega) (.int .u8 (((bs signs)[k % 32]'h32).toNat : Int))
      obtain ⟨hc1, hc2⟩ := hb.cellAt (j := p) (by omega)
      rw [Nat.zero_add] at hst hc1 hc2
      rw [List.getElem?_eq_getElem (by rw [bcs_length]; omega)] at hc1
      have H32 := Lib.hid h32
      have HST := Lib.hid hst
      clear hb hst
      go_wp2_with fail
      go_roundw
      case rel =>
        refine ⟨p, k / 32, l.set p (sgn (k % 32)), by omega, ?_, by go_num, by omega, by rw [List.length_set]; exact hll, by rw [bcs_set, ← sgn_get _ H32.out]; exact HST.out, hbl.setCell (by simp) _, ?_, ?_⟩
        · rcases p with _ | p
          · exact .inl ⟨rfl, rfl⟩
          · exact .inr ⟨p, rfl, by go_num⟩
        · show k / 32 = n / 32 ^ (8 - p)
          have e8 : 8 - p = (8 - (p + 1)) + 1 := by omega
          rw [HK.out.1, Nat.div_div_eq_div_mul, ← Nat.pow_succ, e8]
        · show (l.set p (sgn (k % 32))).drop p = dg (8 - p) n
          have e8 : 8 - p = (8 - (p + 1)) + 1 := by omega
          have e9 := List.drop_eq_getElem_cons (l := l.set p (sgn (k % 32))) (i := p) (by rw [List.length_set]; omega)
          rw [e8, dg_cons, ← HK.out.2, ← HK.out.1, e9, List.getElem_set_self, List.drop_set_of_lt (by omega)]
      case measure => simp [intOf]

/-- what number returns -/
def numV : Option Nat → Value
  | some v => .tuple #[.int .i64 (v : Int), .bool true]
  | none => .tuple #[.int .i64 0, .bool false]
theorem or_low (a k : Nat) (hk : k < 32) (ha : a < 34359738368) : bits .or .i64 ((a : Int) * 32) (k : Int) = ((32 * a + k : Nat) : Int) := by
  have h1 := i64_or_nat (a * 32) k (by omega) (by omega)
  rw [show (((a * 32 : Nat)) : Int) = (a : Int) * 32 by omega] at h1
  rw [h1]
  have h2 := Nat.two_pow_add_eq_or_of_lt (i := 5) (show k < 2 ^ 5 by omega) a
  rw [show a * 32 = 2 ^ 5 * a by omega, ← h2]

set_option maxHeartbeats 1000000 in
set_option maxRecDepth 10000 in
theorem number_any (l : List UInt8) (w : World) (hl : l.length ≤ 8) :
    Calls Tryz.prog 119 #[.string (bs l)] w fun e w' => e = .returned (numV (num 0 l)) ∧ w = w' := by
  go_enter Tryz.func119, Tryz.ntmps119
  go_wp2_with fail
  go_loop [4, 9] (fun a i => ∃ k m : Nat, k ≤ l.length ∧ i = .int .i64 k ∧ a = .int .i64 m ∧ m < 32 ^ k ∧ Hid (num m (l.drop k) = num 0 l)) (fun _ i => l.length - (intOf i).toNat)
  case atStart => exact ⟨0, 0, Nat.zero_le _, rfl, rfl, by simp, rfl⟩
  case round =>
    obtain ⟨k, m, hk, rfl, rfl, hm, hnum⟩ := hrel
    by_cases hgo : k < l.length
    · have hm35 : m < 34359738368 := Nat.lt_of_lt_of_le hm (Nat.pow_le_pow_right (by omega) (show k ≤ 7 by omega))
      obtain ⟨c, hc⟩ : ∃ c, l[k]? = some c := ⟨_, List.getElem?_eq_getElem hgo⟩
      have hix := index_bs (P := Tryz.prog) Tryz.underlying9 .i64 l k k c rfl hc
      have hd : l.drop k = c :: l.drop (k + 1) := by
        obtain ⟨h1, h2⟩ := List.getElem?_eq_some_iff.1 hc
        rw [← h2]; exact List.drop_eq_getElem_cons h1
      have hci : (0 : Int) ≤ (k : Int) := by omega
      rcases ix_of c with ⟨h1, h2⟩ | ⟨j, h1, h2, h3⟩
      · have hx : ∀ w, Calls Tryz.prog 142 #[.string { data := #[48, 49, 50, 51, 52, 53, 54, 55, 56, 57, 97, 98, 99, 100, 101, 102, 103, 104, 106, 107, 109, 110, 112, 113, 114, 115, 116, 118, 119, 120, 121, 122] }, .int .u8 c.toNat] w fun e w' => e = .returned (.int .i64 (-1)) ∧ w = w' := fun w => by
          have := indexByte_any (bs signs) c w
          rw [bs_data, show Lib.indexByte signs c = -1 from h1] at this
          exact this
        have HX := Lib.hid hx
        have hres : num 0 l = none := by
          rw [← hnum.out, hd, num, h1, if_pos (by omega)]
        have HR := Lib.hid hres
        clear hx hd hc h1 h2 hres hnum
        go_wp2_with fail
        refine (HX.out _).mono ?_
        rintro e w' ⟨rfl, rfl⟩
        go_wp2_with fail
        go_ret2
        rw [HR.out]
        exact ⟨rfl, rfl⟩
      · have hx : ∀ w, Calls Tryz.prog 142 #[.string { data := #[48, 49, 50, 51, 52, 53, 54, 55, 56, 57, 97, 98, 99, 100, 101, 102, 103, 104, 106, 107, 109, 110, 112, 113, 114, 115, 116, 118, 119, 120, 121, 122] }, .int .u8 c.toNat] w fun e w' => e = .returned (.int .i64 j) ∧ w = w' := fun w => by
          have := indexByte_any (bs signs) c w
          rw [bs_data, show Lib.indexByte signs c = j from h1] at this
          exact this
        have HX := Lib.hid hx
        have hor := or_low m j h2 hm35
        have hres : num (32 * m + j) (l.drop (k + 1)) = num 0 l := by
          rw [← hnum.out, hd, num, h1, if_neg (by omega), Int.toNat_natCast]
        have HR := Lib.hid hres
        clear hx hd hc h1 h3 hres hnum
        go_wp2_with fail
        refine (HX.out _).mono ?_
        rintro e w' ⟨rfl, rfl⟩
        go_wp2_with fail
        go_round
        case rel => exact ⟨k + 1, 32 * m + j, by omega, by go_num, by go_num, by rw [Nat.pow_succ]; omega, HR.out⟩
        case measure => simp [intOf]; omega
    · have hres : num 0 l = some m := by rw [← hnum.out, List.drop_of_length_le (by omega)]; rfl
      have HR := Lib.hid hres
      clear hres hnum
      go_wp2_with fail
      go_ret2
      rw [HR.out]
      exact ⟨rfl, rfl⟩

/-- what Make returns -/
def okT (n : Int) : Prop := 0 ≤ n ∧ n < 1099511627776

theorem digits_int (t : Int) (w : World) (h1 : 0 ≤ t) (h2 : t < 1099511627776) :
    Calls Tryz.prog 69 #[.int .i64 t] w (RetBelow w (.string (bs (dg 8 t.toNat)))) := by
  obtain ⟨n, rfl⟩ := Int.eq_ofNat_of_zero_le h1
  exact digits_any n w (by omega)

set_option maxHeartbeats 1000000 in
set_option maxRecDepth 10000 in
theorem make_ok (t s : Int) (w : World) (ht : okT t) (hs : okT s) :
    Calls Tryz.prog 30 #[.int .i64 t, .int .i64 s] w (RetBelow w (.tuple #[.string (bs (mk t.toNat s.toNat)), .int .i64 0])) := by
  obtain ⟨ht1, ht2⟩ := ht
  obtain ⟨hs1, hs2⟩ := hs
  obtain ⟨x, hx⟩ : ∃ x, dg 8 t.toNat = x := ⟨_, rfl⟩
  obtain ⟨y, hy⟩ : ∃ y, dg 8 s.toNat = y := ⟨_, rfl⟩
  have hl : x.length ≤ 8 ∧ y.length ≤ 8 := by rw [← hx, ← hy, dg_length, dg_length]; omega
  obtain ⟨hl1, hl2⟩ := hl
  have hnl : ¬ 9223372036854775807 < x.length + y.length := by omega
  have H1 := digits_int t
  have H2 := digits_int s
  rw [hx] at H1
  rw [hy] at H2
  have HM : mk t.toNat s.toNat = x ++ y := by rw [mk, hx, hy]
  rw [HM]
  have G1 := Lib.hid H1
  have G2 := Lib.hid H2
  clear H1 H2 HM hx hy
  go_enter Tryz.func30, Tryz.ntmps30
  go_wp2_with fail
  refine (G1.out _ ht1 ht2).mono ?_
  rintro e w1 ⟨rfl, hb1⟩
  go_wp2_with fail
  refine (G2.out _ hs1 hs2).mono ?_
  rintro e w2 ⟨rfl, hb2⟩
  go_wp2_with fail
  go_ret2
  exact ⟨rfl, below_trans hb1 hb2⟩

/-- what Parse returns -/
def parseV : Option (Nat × Nat) → Value
  | some (t, s) => .tuple #[.int .i64 (t : Int), .int .i64 (s : Int), .int .i64 0]
  | none => .tuple #[.int .i64 0, .int .i64 0, .int .i64 3]

set_option maxHeartbeats 1000000 in
set_option maxRecDepth 10000 in
theorem parse_any (l : List UInt8) (w : World) (_hl : l.length ≤ 1000000000000) :
    Calls Tryz.prog 99 #[.string (bs l)] w fun e w' => e = .returned (parseV (parse l)) ∧ w = w' := by
  unfold parse
  by_cases h16 : l.length ≠ 16
  · rw [if_pos h16]
    have hb : ((l.length : Int) != 16) = true := by rw [bne_iff_ne]; omega
    clear h16
    go_enter Tryz.func99, Tryz.ntmps99
    go_wp2_with fail
    go_ret3
    exact ⟨rfl, rfl⟩
  · rw [if_neg h16]
    have h16 : l.length = 16 := by omega
    have hb : ((l.length : Int) != 16) = false := by rw [bne_eq_false_iff_eq]; omega
    have hs1 : ∀ w, (Instr.slice 9 (.string (bs l)) none (some (.int .i64 8)) none).run Tryz.prog w = .ok (.string (bs (l.take 8))) w := slice_to (P := Tryz.prog) Tryz.underlying9 l 8 (by omega)
    have hs2 : ∀ w, (Instr.slice 9 (.string (bs l)) (some (.int .i64 8)) none none).run Tryz.prog w = .ok (.string (bs (l.drop 8))) w := slice_from (P := Tryz.prog) Tryz.underlying9 l 8 (by omega)
    have hn1 := number_any (l.take 8)
    have hn2 := number_any (l.drop 8)
    have hl1 : (l.take 8).length ≤ 8 := List.length_take_le _ _
    have hl2 : (l.drop 8).length ≤ 8 := by rw [List.length_drop]; omega
    obtain ⟨x, hx⟩ : ∃ x, num 0 (l.take 8) = x := ⟨_, rfl⟩
    obtain ⟨y, hy⟩ : ∃ y, num 0 (l.drop 8) = y := ⟨_, rfl⟩
    rw [hx] at hn1 ⊢
    rw [hy] at hn2 ⊢
    have H1 := Lib.hid hn1
    have H2 := Lib.hid hn2
    clear hn1 hn2 hx hy h16
    rcases x with _ | x <;> rcases y with _ | y
    all_goals
      simp only [numV] at H1 H2
      go_enter Tryz.func99, Tryz.ntmps99
      go_wp2_with fail
      refine (H1.out _ hl1).mono ?_
      rintro e w' ⟨rfl, rfl⟩
      go_wp2_with fail
      refine (H2.out _ hl2).mono ?_
      rintro e w' ⟨rfl, rfl⟩
      go_wp2_with fail
      go_ret3
      exact ⟨rfl, rfl⟩

end Go.Proofs.YtgabmfibfikdbaaGreatDoor

/-
  Layer 2: the walks of frame's functions.
-/
namespace Go.Proofs.YtgabmfibfikdbaaGreatDoor
open Go.RowKit Go.Bar Go.Bar.Leb Go.Bar.Frm

theorem u32_low (c b k : Nat) (hc : c < 4294967296) (hb : b < 256) : bits .and .u32 (bits .xor .u32 (c : Int) ((b / 2 ^ k : Nat) : Int)) 1 = (((c + b / 2 ^ k) % 2 : Nat) : Int) := by
  have h1 : b / 2 ^ k < 256 := Nat.lt_of_le_of_lt (Nat.div_le_self _ _) hb
  rw [u32_xor_nat c _ hc (by omega)]
  have h2 := Nat.xor_lt_two_pow (n := 32) (x := c) (y := b / 2 ^ k) (by omega) (by omega)
  have := u32_and_nat (c ^^^ (b / 2 ^ k)) 1 h2 (by omega)
  rw [show ((1 : Nat) : Int) = 1 from rfl] at this
  rw [this, Nat.and_one_is_mod]
  congr 1
  have := @Nat.xor_mod_two_eq_one c (b / 2 ^ k)
  omega

theorem more_cast (b j : Nat) (hb : b < 256) : (b : Int) / 2 ^ j % 4294967296 = ((b / 2 ^ j : Nat) : Int) := by
  have h1 : b / 2 ^ j < 256 := Nat.lt_of_le_of_lt (Nat.div_le_self _ _) hb
  have e : (b : Int) / 2 ^ j = ((b / 2 ^ j : Nat) : Int) := by
    rw [Int.natCast_ediv, Int.natCast_pow]; rfl
  rw [e]
  clear e
  generalize b / 2 ^ j = x at *
  omega
theorem more_yes {C b j : Nat} (hC : C < 4294967296) (hb : b < 256) (h : (bits .and .u32 (bits .xor .u32 (C : Int) ((b : Int) / 2 ^ j % 4294967296)) 1 == 1) = true) :
    bits .xor .u32 ((C : Int) / 2) 2197175160 = ((bstep C (b / 2 ^ j) : Nat) : Int) := by
  rw [more_cast b j hb, u32_low C b j hC hb, beq_iff_eq] at h
  unfold bstep
  rw [if_pos (by omega)]
  have := u32_xor_nat (C / 2) 2197175160 (by omega) (by omega)
  rw [← this]
  rfl
theorem more_no {C b j : Nat} (hC : C < 4294967296) (hb : b < 256) (h : (bits .and .u32 (bits .xor .u32 (C : Int) ((b : Int) / 2 ^ j % 4294967296)) 1 == 1) = false) :
    (C : Int) / 2 = ((bstep C (b / 2 ^ j) : Nat) : Int) := by
  rw [more_cast b j hb, u32_low C b j hC hb, beq_eq_false_iff_ne] at h
  unfold bstep
  rw [if_neg (by omega)]
  rfl
theorem no_bits (n : Nat) (h : n < 4294967296) : bits .xor .u32 IntKind.u32.max (n : Int) = ((no n : Nat) : Int) := by
  have h1 := u32_xor_nat 4294967295 n (by omega) h
  have e : IntKind.u32.max = ((4294967295 : Nat) : Int) := rfl
  rw [e, h1]
  unfold no
  congr 1
  apply Nat.eq_of_testBit_eq
  intro i
  rw [Nat.testBit_xor]
  have h2 := Nat.testBit_two_pow_sub_succ (x := n) (n := 32) h i
  rw [show 2 ^ 32 - (n + 1) = 4294967295 - n by omega] at h2
  rw [h2]
  have h3 := Nat.testBit_two_pow_sub_one 32 i
  rw [show (2 : Nat) ^ 32 - 1 = 4294967295 from rfl] at h3
  rw [h3]
  by_cases hi : i < 32
  · simp [hi]
  · have := Nat.testBit_lt_two_pow (x := n) (i := i) (Nat.lt_of_lt_of_le h (show 4294967296 ≤ 2 ^ i from Nat.pow_le_pow_right (show 0 < 2 by decide) (show 32 ≤ i by omega)))
    simp [hi, this]

set_option maxHeartbeats 400000 in
set_option maxRecDepth 10000 in
theorem more_any (s : ByteArray) (n : Nat) (w : World) (hs : s.size ≤ maxLen) (hn : n < 4294967296) :
    Calls Tryz.prog 74 #[.int .u32 n, .string s] w fun e w' => e = .returned (.int .u32 (more n s.data.toList)) ∧ w = w' := by
  unfold maxLen at hs
  go_enter Tryz.func74, Tryz.ntmps74
  go_wp2
  go_loop [5, 13] (fun c i => ∃ k : Nat, k ≤ s.size ∧ i = .int .i64 k ∧ c = .int .u32 (crc (no n) (s.data.toList.take k))) (fun _ i => s.size - (intOf i).toNat)
  case atStart => exact ⟨0, Nat.zero_le _, rfl, by rw [no_bits n hn]; rfl⟩
  case round =>
    obtain ⟨k, hk, rfl, rfl⟩ := hrel
    have hC := crc_lt (s.data.toList.take k) (no_lt n)
    by_cases hlt : k < s.size
    · go_wp2
      go_loop [5, 16] (fun c i => ∃ j : Nat, j ≤ 8 ∧ i = .int .i64 j ∧ c = .int .u32 (bsteps j (crc (no n) (s.data.toList.take k)) s[k].toNat)) (fun _ i => 8 - (intOf i).toNat)
      case atStart => exact ⟨0, by omega, rfl, rfl⟩
      case round =>
        obtain ⟨j, hj, rfl, rfl⟩ := hrel
        have hD := bsteps_lt j (b := s[k].toNat) hC
        by_cases hj8 : j < 8
        · go_wp2
          all_goals
            go_round
            case rel => exact ⟨j + 1, by omega, by go_num, by first | rw [more_yes hD (UInt8.toNat_lt _) (by assumption)]; rfl | rw [more_no hD (UInt8.toNat_lt _) (by assumption)]; rfl⟩
            case measure => simp [intOf]; omega
        · obtain rfl : j = 8 := by omega
          have e := crc_snoc (s.data.toList.take k) s[k] (no n)
          have e2 : s.data.toList.take k ++ [s[k]] = s.data.toList.take (k + 1) := by
            rw [List.take_succ_eq_append_getElem (by simpa using hlt)]; rfl
          rw [e2] at e
          have HE := Lib.hid e
          clear e e2
          go_wp2
          go_round
          case rel => exact ⟨k + 1, by omega, by go_num, by rw [HE.out]⟩
          case measure => simp [intOf]; omega
    · go_wp2
      go_ret
      rw [no_bits _ hC, List.take_of_length_le (by rw [← size_eq]; omega)]
      exact ⟨rfl, rfl⟩

theorem more_of {m : Nat} (s : ByteArray) (n : Nat) (w : World) (hs : s.size ≤ maxLen) (hn : n < 4294967296) (h : more n s.data.toList = m) :
    Calls Tryz.prog 74 #[.int .u32 n, .string s] w fun e w' => e = .returned (.int .u32 m) ∧ w = w' := by
  rw [← h]
  exact more_any s n w hs hn

set_option maxHeartbeats 400000 in
theorem sum_any (s : ByteArray) (w : World) (hs : s.size ≤ maxLen) :
    Calls Tryz.prog 70 #[.string s] w fun e w' => e = .returned (.int .u32 (sum s.data.toList)) ∧ w = w' := by
  go_enter Tryz.func70, Tryz.ntmps70
  go_wp2_with fail
  refine (more_any s 0 _ hs (by omega)).mono ?_
  rintro e w' ⟨rfl, rfl⟩
  go_wp2_with fail
  go_ret
  exact ⟨rfl, rfl⟩

attribute [local go_sem ↓] Go.wp_at_zero Go.wp_at_succ

theorem byte4 (n : Nat) : bcs (sum4 n) = [.int .u8 ((n % 256 : Nat) : Int), .int .u8 ((n / 256 % 256 : Nat) : Int), .int .u8 ((n / 65536 % 256 : Nat) : Int), .int .u8 ((n / 16777216 % 256 : Nat) : Int)] := by
  simp [bcs, sum4]

theorem src4 {P : Program} {t e : TypeId} (hT : P.underlying t = some (.slice e)) (w : World) (n : Nat) (z0 z1 z2 z3 : Int) (h0 : z0 = ((n % 256 : Nat) : Int)) (h1 : z1 = ((n / 256 % 256 : Nat) : Int)) (h2 : z2 = ((n / 65536 % 256 : Nat) : Int)) (h3 : z3 = ((n / 16777216 % 256 : Nat) : Int)) :
    Src P 1 t (.slice (some ⟨w.heap.size, 0, none⟩) 4 4) (sum4 n).length (bcs (sum4 n)) (w.alloc (.cells #[.int .u8 z0, .int .u8 z1, .int .u8 z2, .int .u8 z3] e)) := by
  subst h0; subst h1; subst h2; subst h3
  refine Src.ofSlice _ hT _ _ _ _ rfl (fun j u hu => ?_) (fun u hu => ?_)
  · rw [byte4] at hu
    rw [addr_add, World.cell?_alloc_new, Nat.zero_add, ← hu]
    rcases j with _ | _ | _ | _ | j <;> rfl
  · simp only [bcs, List.mem_map] at hu
    obtain ⟨b, _, rfl⟩ := hu
    rfl

set_option maxHeartbeats 1000000 in
set_option maxRecDepth 10000 in
theorem append_any (V : Value) (xs : List UInt8) (k : UInt8) (d : ByteArray) (W : World) (hx : xs.length + 15 + d.size ≤ 140737488355328) (hb : BBuf W 5 V xs) :
    Calls Tryz.prog 50 #[V, .agg #[.int .u8 k.toNat, .string d]] W (RetB W V 5 xs (rec (k, d.data.toList))) := by
  have hul := u_len d.size (by omega)
  have hc1 := conv_one bytes_ty 9 Tryz.underlying9 (W.alloc (.cells #[.int .u8 k.toNat, .string d] 100)).drew (k.toNat : Int) k rfl
  rw [show (World.alloc (W.alloc (.cells #[.int .u8 k.toNat, .string d] 100)).drew (.cells #[.int .u8 k.toNat] 5)) = ((W.alloc (.cells #[.int .u8 k.toNat, .string d] 100)).alloc (.cells #[.int .u8 k.toNat] 5)).drew from rfl, show (W.alloc (.cells #[.int .u8 k.toNat, .string d] 100)).drew.heap.size = W.heap.size + 1 by simp] at hc1
  have hd : d.size ≤ maxLen := by unfold maxLen; omega
  have hs1 : (bs [k]).size ≤ maxLen := (by decide : 1 ≤ maxLen)
  have hs2 := sum_lt [k]
  have hrs : rsum (k, d.data.toList) < 4294967296 := sum_lt _
  go_enter Tryz.func50, Tryz.ntmps50
  go_upto_region 1 with fail
  go_cut [5] (fun s5 wx => s5 = .int .u32 (rsum (k, d.data.toList)) ∧ Below W.heap.size W wx ∧ W.heap.size < wx.heap.size ∧ wx.cell? ⟨W.heap.size, 0, none⟩ = some (.int .u8 k.toNat) ∧ wx.cell? ⟨W.heap.size, 1, none⟩ = some (.string d))
  case first =>
    go_region_with (first
      | (go_at_call 70; refine (sum_any (bs [k]) _ hs1).mono ?_; rintro e w' ⟨rfl, rfl⟩)
      | (go_at_call 74; refine (more_any d (sum [k]) _ hd hs2).mono ?_; rintro e w' ⟨rfl, rfl⟩))
    all_goals (go_wp2_with fail; go_meet; exact ⟨by rw [more_sum]; rfl, (((Below.refl _ _).alloc (Nat.le_refl _) _).alloc (by simp) _).drew, by simp; omega, by simp, by simp⟩)
  case rest =>
    obtain ⟨rfl, hbl, hsz, c0, c1⟩ := hcut
    clear hc1
    have hb0 := hb.below hbl
    have happ := BApp.start' hb0
    go_wp2_with (at_builtin; refine wpList_append_byte rfl (.tmp 14) (.tmp 17) 96 rfl bytes_ty _ rfl rfl happ rfl (by simp; omega) ?_; intro v1 w1 happ1; clear happ; have c1' := (happ1.cell_new hb (Nat.le_refl _) hsz).trans c1; clear c0 c1 hb0)
    refine (uint_any v1 (xs ++ [k]) d.size _ (by omega) (by rw [List.length_append]; simp; omega) happ1.buf).mono ?_
    rintro e w2 ⟨v2, rfl, happ2⟩
    have happ2 := happ1.trans happ2
    have c2 := (happ2.cell_new hb (Nat.le_refl _) hsz).trans (((happ1.cell_new hb (Nat.le_refl _) hsz).symm).trans c1')
    clear happ1 c1'
    have hsrc := src4 (P := Tryz.prog) Tryz.underlying96 w2 (rsum (k, d.data.toList)) ((rsum (k, d.data.toList) : Int) % 256) ((rsum (k, d.data.toList) : Int) / 256 % 256) ((rsum (k, d.data.toList) : Int) / 65536 % 256) ((rsum (k, d.data.toList) : Int) / 16777216) (by omega) (by omega) (by omega) (by omega)
    have HS := Lib.hid hsrc
    clear hsrc
    go_wp2_with (first
      | (at_builtin; refine wpList_append_src rfl (.tmp 25) (.tmp 37) 96 96 rfl bytes_ty rfl (happ2.alloc _) rfl HS.out (by simp [sum4_len]; omega) ?_; intro v3 w3 happ3; have c3 := (happ3.cell_new hb (Nat.le_refl _) hsz).trans (((happ2.cell_new hb (Nat.le_refl _) hsz).symm).trans c2); clear HS c2 happ2)
      | (at_builtin; refine wpList_append_str rfl (.tmp 39) (.tmp 41) 96 9 rfl bytes_ty Tryz.underlying9 d rfl happ3 rfl (by simp [sum4_len]; omega) ?_; intro v4 w4 happ4))
    go_ret
    exact ⟨v4, rfl, by
      have := happ4.after hbl hb
      have e : [] ++ [k] ++ u d.size ++ sum4 (rsum (k, d.data.toList)) ++ d.data.toList = rec (k, d.data.toList) := by simp [rec]
      rw [e] at this
      exact this⟩

end Go.Proofs.YtgabmfibfikdbaaGreatDoor
