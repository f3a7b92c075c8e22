/-
 Layer 8: the walks of ident's functions.
-/
import Derived.Test.YtgabmfibfikdbaaGreatDoorZXorM
import Derived.Test.YtgabmfibfikdbaaGreatDoorZBokM
import Derived.Test.YtgabmfibfikdbaaGreatDoorZLib4
import Derived.Test.YtgabmfibfikdbaaGreatDoorZLib5
import Derived.Lib.Bytealg
import Derived.Lib.Strings
import Derived.BigQuiet
import Derived.Deep.QuietTactic
import Derived.Test.YtgabmfibfikdbaaGreatDoorZLib3
import Derived.RegionTactic
import Derived.ChangeAlike
import Derived.Deep.RegionWith
import Derived.Deep.DeepCutAuto
import Derived.Deep.DrawnRows
import Derived.Handy
import Derived.Test.YtgabmfibfikdbaaGreatDoorZLib8
import Derived.Test.YtgabmfibfikdbaaGreatDoorZMrgS
import Derived.Test.YtgabmfibfikdbaaGreatDoorZLib9
import Derived.BigRegion
import Derived.Test.YtgabmfibfikdbaaGreatDoorZLib18
import Derived.Test.YtgabmfibfikdbaaGreatDoorZLib25

set_option maxHeartbeats 32000000
set_option maxRecDepth 10000
namespace Go.Proofs.YtgabmfibfikdbaaGreatDoor
open Go.RowKit Go.Bar Go.Bar.Idt

set_option maxRecDepth 100000 in
theorem slIndexByte_any (s : ByteArray) (c : UInt8) (w : World) :
  Calls Tryz.prog 154 #[.string s, .int .u8 c.toNat] w fun e w' => e = .returned (.int .i64 (Lib.indexByte s.data.toList c)) /\ w = w' := by
 go_enter Tryz.func154, Tryz.ntmps154
 go_wp2
 rw [run_callFunc_extern Tryz.func169 (by kernel_rfl) (by kernel_rfl) (by kernel_rfl) (e := Extern.BytealgIndexByte.indexByte) (by kernel_rfl), Lib.run_indexByteString]
 simp only [Result.andThen]
 rw [Oper.upon_value]
 go_wp2
 go_ret
 exact ⟨by simp, rfl⟩

theorem indexByte_any (s : ByteArray) (c : UInt8) (w : World) :
  Calls Tryz.prog 142 #[.string s, .int .u8 c.toNat] w fun e w' => e = .returned (.int .i64 (Lib.indexByte s.data.toList c)) /\ w = w' := by
 go_enter Tryz.func142, Tryz.ntmps142
 go_wp2_with fail
 refine (slIndexByte_any s c _).mono ?_
 rintro e w' ⟨rfl, rfl⟩
 go_wp2_with fail
 go_ret
 exact ⟨rfl, rfl⟩

theorem sgn_get (k : Nat) (h : k < (bs signs).size) : (bs signs)[k]'h = sgn k := by
 unfold sgn
 rw [List.getD_eq_getElem?_getD, List.getElem?_eq_getElem h]
 rfl
theorem and31 (n : Nat) (h : n < 9223372036854775808) : bits .and .i64 (n : Int) 31 = ((n % 32 : Nat) : Int) := by
 have := i64_and_nat n 31 h (by omega)
 rw [show n &&& 31 = n % 2 ^ 5 from Nat.and_two_pow_sub_one_eq_mod n 5] at this
 exact this
theorem bcs_set (l : List UInt8) (i : Nat) (c : UInt8) : bcs (l.set i c) = (bcs l).set i (.int .u8 (c.toNat : Int)) := List.map_set

theorem digits_any (n : Nat) (w : World) (hn : n < 1099511627776) :
  Calls Tryz.prog 69 #[.int .i64 n] w (RetBelow w (.string (bs (dg 8 n)))) := by
 go_enter Tryz.func69, Tryz.ntmps69
 go_wp2_with fail
 go_loopw [0, 4] (fun m i wr => ∃ (q k : Nat) (l : List UInt8), q <= 8 /\ (q = 0 /\ i = .int .i64 (-1) \/ ∃ p, q = p + 1 /\ i = .int .i64 (p : Int)) /\ m = .int .i64 k /\ k < 1099511627776 /\ l.length = 8 /\ Buf wr 195 1 (.slice (some ⟨w.heap.size, 0, none⟩) 8 8) 8 (bcs l) /\ Below w.heap.size w wr /\ Hid (k = n / 32 ^ (8 - q) /\ l.drop q = dg (8 - q) n))
  (fun _ i _ => (intOf i + 1).toNat)
 case atStart => exact ⟨8, n, List.replicate 8 0, Nat.le_refl _, .inr ⟨7, rfl, rfl⟩, rfl, hn, rfl, Buf.lit w _ 1 8 [.int .u8 0, .int .u8 0, .int .u8 0, .int .u8 0, .int .u8 0, .int .u8 0, .int .u8 0, .int .u8 0] rfl (by decide), (Below.refl _ _).alloc (Nat.le_refl _) _, (by simp : n = n / 32 ^ 0), rfl⟩
 case round =>
  obtain ⟨q, k, l, hq, hi, rfl, hk, hll, hb, hbl, HK⟩ := hrel
  rcases hi with ⟨rfl, rfl⟩ | ⟨p, rfl, rfl⟩
  ·have hl : l = dg 8 n := HK.out.2
   have hsl : SlAt wr 1 (.slice (some ⟨w.heap.size, 0, none⟩) l.length 8) l.length (bcs l) := by rw [hll]; exact SlAt.of_buf hb
   have hcv := hsl.string bytes_ty 9 Tryz.underlying9
   rw [hll] at hcv
   have HL := Lib.hid hl
   clear hsl hl hb
   go_wp2_with fail
   go_ret
   rw [<- HL.out]
   exact ⟨rfl, hbl⟩
  ·have hand := and31 k (by omega)
   have h32 : k % 32 < (bs signs).size := by rw [bs_size, signs_length]; omega
   have hst := Buf.store hb (j := p) (by omega) (.int .u8 (((bs signs)[k % 32]'h32).toNat : Int))
   obtain ⟨hc1, hc2⟩ := hb.cellAt (j := p) (by omega)
   rw [Nat.zero_add] at hst hc1 hc2
   rw [List.getElem?_eq_getElem (by rw [bcs_length]; omega)] at hc1
   have H32 := Lib.hid h32
   have HST := Lib.hid hst
   clear hb hst
   go_wp2_with fail
   go_roundw
   case rel =>
    refine ⟨p, k / 32, l.set p (sgn (k % 32)), by omega, ?_, by go_num, by omega, by rw [List.length_set]; exact hll, by rw [bcs_set, <- sgn_get _ H32.out]; exact HST.out, hbl.setCell (by simp) _, ?_, ?_⟩
    ·rcases p with _ | p
     ·exact .inl ⟨rfl, rfl⟩
     ·exact .inr ⟨p, rfl, by go_num⟩
    ·show k / 32 = n / 32 ^ (8 - p)
     have e8 : 8 - p = (8 - (p + 1)) + 1 := by omega
     rw [HK.out.1, Nat.div_div_eq_div_mul, <- Nat.pow_succ, e8]
    ·show (l.set p (sgn (k % 32))).drop p = dg (8 - p) n
     have e8 : 8 - p = (8 - (p + 1)) + 1 := by omega
     have e9 := List.drop_eq_getElem_cons (l := l.set p (sgn (k % 32))) (i := p) (by rw [List.length_set]; omega)
     rw [e8, dg_cons, <- HK.out.2, <- HK.out.1, e9, List.getElem_set_self, List.drop_set_of_lt (by omega)]
   case measure => simp [intOf]

def numV : Option Nat -> Value
 | some v => .tuple #[.int .i64 (v : Int), .bool true]
 | none => .tuple #[.int .i64 0, .bool false]
theorem or_low (a k : Nat) (hk : k < 32) (ha : a < 34359738368) : bits .or .i64 ((a : Int) * 32) (k : Int) = ((32 * a + k : Nat) : Int) := by
 have h1 := i64_or_nat (a * 32) k (by omega) (by omega)
 rw [show (((a * 32 : Nat)) : Int) = (a : Int) * 32 by omega] at h1
 rw [h1]
 have h2 := Nat.two_pow_add_eq_or_of_lt (i := 5) (show k < 2 ^ 5 by omega) a
 rw [show a * 32 = 2 ^ 5 * a by omega, <- h2]

theorem number_any (l : List UInt8) (w : World) (hl : l.length <= 8) :
  Calls Tryz.prog 119 #[.string (bs l)] w fun e w' => e = .returned (numV (num 0 l)) /\ w = w' := by
 go_enter Tryz.func119, Tryz.ntmps119
 go_wp2_with fail
 go_loop [4, 9] (fun a i => ∃ k m : Nat, k <= l.length /\ i = .int .i64 k /\ a = .int .i64 m /\ m < 32 ^ k /\ Hid (num m (l.drop k) = num 0 l)) (fun _ i => l.length - (intOf i).toNat)
 case atStart => exact ⟨0, 0, Nat.zero_le _, rfl, rfl, by simp, rfl⟩
 case round =>
  obtain ⟨k, m, hk, rfl, rfl, hm, hnum⟩ := hrel
  by_cases hgo : k < l.length
  ·have hm35 : m < 34359738368 := Nat.lt_of_lt_of_le hm (Nat.pow_le_pow_right (by omega) (show k <= 7 by omega))
   obtain ⟨c, hc⟩ : ∃ c, l[k]? = some c := ⟨_, List.getElem?_eq_getElem hgo⟩
   have hix := index_bs (P := Tryz.prog) Tryz.underlying9 .i64 l k k c rfl hc
   have hd : l.drop k = c :: l.drop (k + 1) := by
    obtain ⟨h1, h2⟩ := List.getElem?_eq_some_iff.1 hc
    rw [<- h2]; exact List.drop_eq_getElem_cons h1
   have hci : (0 : Int) <= (k : Int) := by omega
   rcases ix_of c with ⟨h1, h2⟩ | ⟨j, h1, h2, h3⟩
   ·have hx : ∀ w, Calls Tryz.prog 142 #[.string { data := #[48, 49, 50, 51, 52, 53, 54, 55, 56, 57, 97, 98, 99, 100, 101, 102, 103, 104, 106, 107, 109, 110, 112, 113, 114, 115, 116, 118, 119, 120, 121, 122] }, .int .u8 c.toNat] w fun e w' => e = .returned (.int .i64 (-1)) /\ w = w' := fun w => by
     have := indexByte_any (bs signs) c w
     rw [bs_data, show Lib.indexByte signs c = -1 from h1] at this
     exact this
    have HX := Lib.hid hx
    have hres : num 0 l = none := by
     rw [<- hnum.out, hd, num, h1, if_pos (by omega)]
    have HR := Lib.hid hres
    clear hx hd hc h1 h2 hres hnum
    go_wp2_with fail
    refine (HX.out _).mono ?_
    rintro e w' ⟨rfl, rfl⟩
    go_wp2_with fail
    go_ret2
    rw [HR.out]
    exact ⟨rfl, rfl⟩
   ·have hx : ∀ w, Calls Tryz.prog 142 #[.string { data := #[48, 49, 50, 51, 52, 53, 54, 55, 56, 57, 97, 98, 99, 100, 101, 102, 103, 104, 106, 107, 109, 110, 112, 113, 114, 115, 116, 118, 119, 120, 121, 122] }, .int .u8 c.toNat] w fun e w' => e = .returned (.int .i64 j) /\ w = w' := fun w => by
     have := indexByte_any (bs signs) c w
     rw [bs_data, show Lib.indexByte signs c = j from h1] at this
     exact this
    have HX := Lib.hid hx
    have hor := or_low m j h2 hm35
    have hres : num (32 * m + j) (l.drop (k + 1)) = num 0 l := by
     rw [<- hnum.out, hd, num, h1, if_neg (by omega), Int.toNat_natCast]
    have HR := Lib.hid hres
    clear hx hd hc h1 h3 hres hnum
    go_wp2_with fail
    refine (HX.out _).mono ?_
    rintro e w' ⟨rfl, rfl⟩
    go_wp2_with fail
    go_round
    case rel => exact ⟨k + 1, 32 * m + j, by omega, by go_num, by go_num, by rw [Nat.pow_succ]; omega, HR.out⟩
    case measure => simp [intOf]; omega
  ·have hres : num 0 l = some m := by rw [<- hnum.out, List.drop_of_length_le (by omega)]; rfl
   have HR := Lib.hid hres
   clear hres hnum
   go_wp2_with fail
   go_ret2
   rw [HR.out]
   exact ⟨rfl, rfl⟩

def okT (n : Int) : Prop := 0 <= n /\ n < 1099511627776

theorem digits_int (t : Int) (w : World) (h1 : 0 <= t) (h2 : t < 1099511627776) :
  Calls Tryz.prog 69 #[.int .i64 t] w (RetBelow w (.string (bs (dg 8 t.toNat)))) := by
 obtain ⟨n, rfl⟩ := Int.eq_ofNat_of_zero_le h1
 exact digits_any n w (by omega)

theorem make_ok (t s : Int) (w : World) (ht : okT t) (hs : okT s) :
  Calls Tryz.prog 30 #[.int .i64 t, .int .i64 s] w (RetBelow w (.tuple #[.string (bs (mk t.toNat s.toNat)), .int .i64 0])) := by
 obtain ⟨ht1, ht2⟩ := ht
 obtain ⟨hs1, hs2⟩ := hs
 obtain ⟨x, hx⟩ : ∃ x, dg 8 t.toNat = x := ⟨_, rfl⟩
 obtain ⟨y, hy⟩ : ∃ y, dg 8 s.toNat = y := ⟨_, rfl⟩
 have hl : x.length <= 8 /\ y.length <= 8 := by rw [<- hx, <- hy, dg_length, dg_length]; omega
 obtain ⟨hl1, hl2⟩ := hl
 have hnl : ¬ 9223372036854775807 < x.length + y.length := by omega
 have H1 := digits_int t
 have H2 := digits_int s
 rw [hx] at H1
 rw [hy] at H2
 have HM : mk t.toNat s.toNat = x ++ y := by rw [mk, hx, hy]
 rw [HM]
 have G1 := Lib.hid H1
 have G2 := Lib.hid H2
 clear H1 H2 HM hx hy
 go_enter Tryz.func30, Tryz.ntmps30
 go_wp2_with fail
 refine (G1.out _ ht1 ht2).mono ?_
 rintro e w1 ⟨rfl, hb1⟩
 go_wp2_with fail
 refine (G2.out _ hs1 hs2).mono ?_
 rintro e w2 ⟨rfl, hb2⟩
 go_wp2_with fail
 go_ret2
 exact ⟨rfl, below_trans hb1 hb2⟩

def parseV : Option (Nat × Nat) -> Value
 | some (t, s) => .tuple #[.int .i64 (t : Int), .int .i64 (s : Int), .int .i64 0]
 | none => .tuple #[.int .i64 0, .int .i64 0, .int .i64 3]

theorem parse_any (l : List UInt8) (w : World) (_hl : l.length <= 1000000000000) :
  Calls Tryz.prog 99 #[.string (bs l)] w fun e w' => e = .returned (parseV (parse l)) /\ w = w' := by
 unfold parse
 by_cases h16 : l.length ≠ 16
 ·rw [if_pos h16]
  have hb : ((l.length : Int) != 16) = true := by rw [bne_iff_ne]; omega
  clear h16
  go_enter Tryz.func99, Tryz.ntmps99
  go_wp2_with fail
  go_ret3
  exact ⟨rfl, rfl⟩
 ·rw [if_neg h16]
  have h16 : l.length = 16 := by omega
  have hb : ((l.length : Int) != 16) = false := by rw [bne_eq_false_iff_eq]; omega
  have hs1 : ∀ w, (Instr.slice 9 (.string (bs l)) none (some (.int .i64 8)) none).run Tryz.prog w = .ok (.string (bs (l.take 8))) w := slice_to (P := Tryz.prog) Tryz.underlying9 l 8 (by omega)
  have hs2 : ∀ w, (Instr.slice 9 (.string (bs l)) (some (.int .i64 8)) none none).run Tryz.prog w = .ok (.string (bs (l.drop 8))) w := slice_from (P := Tryz.prog) Tryz.underlying9 l 8 (by omega)
  have hn1 := number_any (l.take 8)
  have hn2 := number_any (l.drop 8)
  have hl1 : (l.take 8).length <= 8 := List.length_take_le _ _
  have hl2 : (l.drop 8).length <= 8 := by rw [List.length_drop]; omega
  obtain ⟨x, hx⟩ : ∃ x, num 0 (l.take 8) = x := ⟨_, rfl⟩
  obtain ⟨y, hy⟩ : ∃ y, num 0 (l.drop 8) = y := ⟨_, rfl⟩
  rw [hx] at hn1 ⊢
  rw [hy] at hn2 ⊢
  have H1 := Lib.hid hn1
  have H2 := Lib.hid hn2
  clear hn1 hn2 hx hy h16
  rcases x with _ | x <;> rcases y with _ | y
  all_goals
   simp only [numV] at H1 H2
   go_enter Tryz.func99, Tryz.ntmps99
   go_wp2_with fail
   refine (H1.out _ hl1).mono ?_
   rintro e w' ⟨rfl, rfl⟩
   go_wp2_with fail
   refine (H2.out _ hl2).mono ?_
   rintro e w' ⟨rfl, rfl⟩
   go_wp2_with fail
   go_ret3
   exact ⟨rfl, rfl⟩

end Go.Proofs.YtgabmfibfikdbaaGreatDoor

set_option maxHeartbeats 32000000
set_option maxRecDepth 10000
namespace Go.Proofs.YtgabmfibfikdbaaGreatDoor
open Go.RowKit Go.Bar Go.Bar.Leb Go.Bar.Frm

theorem u32_low (c b k : Nat) (hc : c < 4294967296) (hb : b < 256) : bits .and .u32 (bits .xor .u32 (c : Int) ((b / 2 ^ k : Nat) : Int)) 1 = (((c + b / 2 ^ k) % 2 : Nat) : Int) := by
 have h1 : b / 2 ^ k < 256 := Nat.lt_of_le_of_lt (Nat.div_le_self _ _) hb
 rw [u32_xor_nat c _ hc (by omega)]
 have h2 := Nat.xor_lt_two_pow (n := 32) (x := c) (y := b / 2 ^ k) (by omega) (by omega)
 have := u32_and_nat (c ^^^ (b / 2 ^ k)) 1 h2 (by omega)
 rw [show ((1 : Nat) : Int) = 1 from rfl] at this
 rw [this, Nat.and_one_is_mod]
 congr 1
 have := @Nat.xor_mod_two_eq_one c (b / 2 ^ k)
 omega

theorem more_cast (b j : Nat) (hb : b < 256) : (b : Int) / 2 ^ j % 4294967296 = ((b / 2 ^ j : Nat) : Int) := by
 have h1 : b / 2 ^ j < 256 := Nat.lt_of_le_of_lt (Nat.div_le_self _ _) hb
 have e : (b : Int) / 2 ^ j = ((b / 2 ^ j : Nat) : Int) := by
  rw [Int.natCast_ediv, Int.natCast_pow]; rfl
 rw [e]
 clear e
 generalize b / 2 ^ j = x at *
 omega
theorem more_yes {C b j : Nat} (hC : C < 4294967296) (hb : b < 256) (h : (bits .and .u32 (bits .xor .u32 (C : Int) ((b : Int) / 2 ^ j % 4294967296)) 1 == 1) = true) :
  bits .xor .u32 ((C : Int) / 2) 2197175160 = ((bstep C (b / 2 ^ j) : Nat) : Int) := by
 rw [more_cast b j hb, u32_low C b j hC hb, beq_iff_eq] at h
 unfold bstep
 rw [if_pos (by omega)]
 have := u32_xor_nat (C / 2) 2197175160 (by omega) (by omega)
 rw [<- this]
 rfl
theorem more_no {C b j : Nat} (hC : C < 4294967296) (hb : b < 256) (h : (bits .and .u32 (bits .xor .u32 (C : Int) ((b : Int) / 2 ^ j % 4294967296)) 1 == 1) = false) :
  (C : Int) / 2 = ((bstep C (b / 2 ^ j) : Nat) : Int) := by
 rw [more_cast b j hb, u32_low C b j hC hb, beq_eq_false_iff_ne] at h
 unfold bstep
 rw [if_neg (by omega)]
 rfl
theorem no_bits (n : Nat) (h : n < 4294967296) : bits .xor .u32 IntKind.u32.max (n : Int) = ((no n : Nat) : Int) := by
 have h1 := u32_xor_nat 4294967295 n (by omega) h
 have e : IntKind.u32.max = ((4294967295 : Nat) : Int) := rfl
 rw [e, h1]
 unfold no
 congr 1
 apply Nat.eq_of_testBit_eq
 intro i
 rw [Nat.testBit_xor]
 have h2 := Nat.testBit_two_pow_sub_succ (x := n) (n := 32) h i
 rw [show 2 ^ 32 - (n + 1) = 4294967295 - n by omega] at h2
 rw [h2]
 have h3 := Nat.testBit_two_pow_sub_one 32 i
 rw [show (2 : Nat) ^ 32 - 1 = 4294967295 from rfl] at h3
 rw [h3]
 by_cases hi : i < 32
 ·simp [hi]
 ·have := Nat.testBit_lt_two_pow (x := n) (i := i) (Nat.lt_of_lt_of_le h (show 4294967296 <= 2 ^ i from Nat.pow_le_pow_right (show 0 < 2 by decide) (show 32 <= i by omega)))
  simp [hi, this]

theorem more_any (s : ByteArray) (n : Nat) (w : World) (hs : s.size <= maxLen) (hn : n < 4294967296) :
  Calls Tryz.prog 74 #[.int .u32 n, .string s] w fun e w' => e = .returned (.int .u32 (more n s.data.toList)) /\ w = w' := by
 unfold maxLen at hs
 go_enter Tryz.func74, Tryz.ntmps74
 go_wp2
 go_loop [5, 13] (fun c i => ∃ k : Nat, k <= s.size /\ i = .int .i64 k /\ c = .int .u32 (crc (no n) (s.data.toList.take k))) (fun _ i => s.size - (intOf i).toNat)
 case atStart => exact ⟨0, Nat.zero_le _, rfl, by rw [no_bits n hn]; rfl⟩
 case round =>
  obtain ⟨k, hk, rfl, rfl⟩ := hrel
  have hC := crc_lt (s.data.toList.take k) (no_lt n)
  by_cases hlt : k < s.size
  ·go_wp2
   go_loop [5, 16] (fun c i => ∃ j : Nat, j <= 8 /\ i = .int .i64 j /\ c = .int .u32 (bsteps j (crc (no n) (s.data.toList.take k)) s[k].toNat)) (fun _ i => 8 - (intOf i).toNat)
   case atStart => exact ⟨0, by omega, rfl, rfl⟩
   case round =>
    obtain ⟨j, hj, rfl, rfl⟩ := hrel
    have hD := bsteps_lt j (b := s[k].toNat) hC
    by_cases hj8 : j < 8
    ·go_wp2
     all_goals
      go_round
      case rel => exact ⟨j + 1, by omega, by go_num, by first | rw [more_yes hD (UInt8.toNat_lt _) (by assumption)]; rfl | rw [more_no hD (UInt8.toNat_lt _) (by assumption)]; rfl⟩
      case measure => simp [intOf]; omega
    ·obtain rfl : j = 8 := by omega
     have e := crc_snoc (s.data.toList.take k) s[k] (no n)
     have e2 : s.data.toList.take k ++ [s[k]] = s.data.toList.take (k + 1) := by
      rw [List.take_succ_eq_append_getElem (by simpa using hlt)]; rfl
     rw [e2] at e
     have HE := Lib.hid e
     clear e e2
     go_wp2
     go_round
     case rel => exact ⟨k + 1, by omega, by go_num, by rw [HE.out]⟩
     case measure => simp [intOf]; omega
  ·go_wp2
   go_ret
   rw [no_bits _ hC, List.take_of_length_le (by rw [<- size_eq]; omega)]
   exact ⟨rfl, rfl⟩

theorem more_of {m : Nat} (s : ByteArray) (n : Nat) (w : World) (hs : s.size <= maxLen) (hn : n < 4294967296) (h : more n s.data.toList = m) :
  Calls Tryz.prog 74 #[.int .u32 n, .string s] w fun e w' => e = .returned (.int .u32 m) /\ w = w' := by
 rw [<- h]
 exact more_any s n w hs hn

theorem sum_any (s : ByteArray) (w : World) (hs : s.size <= maxLen) :
  Calls Tryz.prog 70 #[.string s] w fun e w' => e = .returned (.int .u32 (sum s.data.toList)) /\ w = w' := by
 go_enter Tryz.func70, Tryz.ntmps70
 go_wp2_with fail
 refine (more_any s 0 _ hs (by omega)).mono ?_
 rintro e w' ⟨rfl, rfl⟩
 go_wp2_with fail
 go_ret
 exact ⟨rfl, rfl⟩

attribute [local go_sem ↓] Go.wp_at_zero Go.wp_at_succ

theorem byte4 (n : Nat) : bcs (sum4 n) = [.int .u8 ((n % 256 : Nat) : Int), .int .u8 ((n / 256 % 256 : Nat) : Int), .int .u8 ((n / 65536 % 256 : Nat) : Int), .int .u8 ((n / 16777216 % 256 : Nat) : Int)] := by
 simp [bcs, sum4]

theorem src4 {P : Program} {t e : TypeId} (hT : P.underlying t = some (.slice e)) (w : World) (n : Nat) (z0 z1 z2 z3 : Int) (h0 : z0 = ((n % 256 : Nat) : Int)) (h1 : z1 = ((n / 256 % 256 : Nat) : Int)) (h2 : z2 = ((n / 65536 % 256 : Nat) : Int)) (h3 : z3 = ((n / 16777216 % 256 : Nat) : Int)) :
  Src P 1 t (.slice (some ⟨w.heap.size, 0, none⟩) 4 4) (sum4 n).length (bcs (sum4 n)) (w.alloc (.cells #[.int .u8 z0, .int .u8 z1, .int .u8 z2, .int .u8 z3] e)) := by
 subst h0; subst h1; subst h2; subst h3
 refine Src.ofSlice _ hT _ _ _ _ rfl (fun j u hu => ?_) (fun u hu => ?_)
 ·rw [byte4] at hu
  rw [addr_add, World.cell?_alloc_new, Nat.zero_add, <- hu]
  rcases j with _ | _ | _ | _ | j <;> rfl
 ·simp only [bcs, List.mem_map] at hu
  obtain ⟨b, _, rfl⟩ := hu
  rfl

theorem append_any (V : Value) (xs : List UInt8) (k : UInt8) (d : ByteArray) (W : World) (hx : xs.length + 15 + d.size <= 140737488355328) (hb : BBuf W 5 V xs) :
  Calls Tryz.prog 50 #[V, .agg #[.int .u8 k.toNat, .string d]] W (RetB W V 5 xs (rec (k, d.data.toList))) := by
 have hul := u_len d.size (by omega)
 have hc1 := conv_one bytes_ty 9 Tryz.underlying9 (W.alloc (.cells #[.int .u8 k.toNat, .string d] 100)).drew (k.toNat : Int) k rfl
 rw [show (World.alloc (W.alloc (.cells #[.int .u8 k.toNat, .string d] 100)).drew (.cells #[.int .u8 k.toNat] 5)) = ((W.alloc (.cells #[.int .u8 k.toNat, .string d] 100)).alloc (.cells #[.int .u8 k.toNat] 5)).drew from rfl, show (W.alloc (.cells #[.int .u8 k.toNat, .string d] 100)).drew.heap.size = W.heap.size + 1 by simp] at hc1
 have hd : d.size <= maxLen := by unfold maxLen; omega
 have hs1 : (bs [k]).size <= maxLen := (by decide : 1 <= maxLen)
 have hs2 := sum_lt [k]
 have hrs : rsum (k, d.data.toList) < 4294967296 := sum_lt _
 go_enter Tryz.func50, Tryz.ntmps50
 go_upto_region 1 with fail
 go_cut [5] (fun s5 wx => s5 = .int .u32 (rsum (k, d.data.toList)) /\ Below W.heap.size W wx /\ W.heap.size < wx.heap.size /\ wx.cell? ⟨W.heap.size, 0, none⟩ = some (.int .u8 k.toNat) /\ wx.cell? ⟨W.heap.size, 1, none⟩ = some (.string d))
 case first =>
  go_region_with (first
   | (go_at_call 70; refine (sum_any (bs [k]) _ hs1).mono ?_; rintro e w' ⟨rfl, rfl⟩)
   | (go_at_call 74; refine (more_any d (sum [k]) _ hd hs2).mono ?_; rintro e w' ⟨rfl, rfl⟩))
  all_goals (go_wp2_with fail; go_meet; exact ⟨by rw [more_sum]; rfl, (((Below.refl _ _).alloc (Nat.le_refl _) _).alloc (by simp) _).drew, by simp; omega, by simp, by simp⟩)
 case rest =>
  obtain ⟨rfl, hbl, hsz, c0, c1⟩ := hcut
  clear hc1
  have hb0 := hb.below hbl
  have happ := BApp.start' hb0
  go_wp2_with (at_builtin; refine wpList_append_byte rfl (.tmp 14) (.tmp 17) 96 rfl bytes_ty _ rfl rfl happ rfl (by simp; omega) ?_; intro v1 w1 happ1; clear happ; have c1' := (happ1.cell_new hb (Nat.le_refl _) hsz).trans c1; clear c0 c1 hb0)
  refine (uint_any v1 (xs ++ [k]) d.size _ (by omega) (by rw [List.length_append]; simp; omega) happ1.buf).mono ?_
  rintro e w2 ⟨v2, rfl, happ2⟩
  have happ2 := happ1.trans happ2
  have c2 := (happ2.cell_new hb (Nat.le_refl _) hsz).trans (((happ1.cell_new hb (Nat.le_refl _) hsz).symm).trans c1')
  clear happ1 c1'
  have hsrc := src4 (P := Tryz.prog) Tryz.underlying96 w2 (rsum (k, d.data.toList)) ((rsum (k, d.data.toList) : Int) % 256) ((rsum (k, d.data.toList) : Int) / 256 % 256) ((rsum (k, d.data.toList) : Int) / 65536 % 256) ((rsum (k, d.data.toList) : Int) / 16777216) (by omega) (by omega) (by omega) (by omega)
  have HS := Lib.hid hsrc
  clear hsrc
  go_wp2_with (first
   | (at_builtin; refine wpList_append_src rfl (.tmp 25) (.tmp 37) 96 96 rfl bytes_ty rfl (happ2.alloc _) rfl HS.out (by simp [sum4_len]; omega) ?_; intro v3 w3 happ3; have c3 := (happ3.cell_new hb (Nat.le_refl _) hsz).trans (((happ2.cell_new hb (Nat.le_refl _) hsz).symm).trans c2); clear HS c2 happ2)
   | (at_builtin; refine wpList_append_str rfl (.tmp 39) (.tmp 41) 96 9 rfl bytes_ty Tryz.underlying9 d rfl happ3 rfl (by simp [sum4_len]; omega) ?_; intro v4 w4 happ4))
  go_ret
  exact ⟨v4, rfl, by
   have := happ4.after hbl hb
   have e : [] ++ [k] ++ u d.size ++ sum4 (rsum (k, d.data.toList)) ++ d.data.toList = rec (k, d.data.toList) := by simp [rec]
   rw [e] at this
   exact this⟩

end Go.Proofs.YtgabmfibfikdbaaGreatDoor

set_option maxHeartbeats 32000000
set_option maxRecDepth 10000
namespace Go.Proofs.YtgabmfibfikdbaaGreatDoor
open Go.RowKit Go.Bar Go.Bar.Leb Go.Bar.Frm

def recV (r : Rc) : Value := .agg #[.int .u8 r.1.toNat, .string (bs r.2)]
def nextV (x : Rc × List UInt8 × Nat) : Value := .tuple #[recV x.1, .string (bs x.2.1), .int .i64 x.2.2]

theorem or_shift (x b i : Nat) (h : x < 2 ^ i) : x ||| b * 2 ^ i = x + b * 2 ^ i := by
 have := Nat.two_pow_add_eq_or_of_lt h b
 rw [Nat.or_comm, Nat.mul_comm b, <- this, Nat.add_comm]
theorem num4_bits (a b c f : UInt8) (r : List UInt8) : bits .or .u32 (bits .or .u32 (bits .or .u32 ((a.toNat : Int) % 4294967296) ((b.toNat : Int) % 4294967296 * 256 % 4294967296)) ((c.toNat : Int) % 4294967296 * 65536 % 4294967296)) ((f.toNat : Int) % 4294967296 * 16777216 % 4294967296) = ((num4 (a :: b :: c :: f :: r) : Nat) : Int) := by
 have ha := UInt8.toNat_lt a
 have hb := UInt8.toNat_lt b
 have hc := UInt8.toNat_lt c
 have hf := UInt8.toNat_lt f
 simp only [num4, List.getD_cons_zero, List.getD_cons_succ]
 generalize a.toNat = x at *
 generalize b.toNat = y at *
 generalize c.toNat = z at *
 generalize f.toNat = v at *
 rw [show (x : Int) % 4294967296 = (x : Nat) by omega, show (y : Int) % 4294967296 * 256 % 4294967296 = ((y * 2 ^ 8 : Nat) : Int) by omega, show (z : Int) % 4294967296 * 65536 % 4294967296 = ((z * 2 ^ 16 : Nat) : Int) by omega, show (v : Int) % 4294967296 * 16777216 % 4294967296 = ((v * 2 ^ 24 : Nat) : Int) by omega]
 rw [u32_or_nat _ _ (by omega) (by omega), or_shift _ _ _ (by omega), u32_or_nat _ _ (by omega) (by omega), or_shift _ _ _ (by omega), u32_or_nat _ _ (by omega) (by omega), or_shift _ _ _ (by omega)]

theorem next_any (l : List UInt8) (w : World) (hs : l.length <= 9223372036854775807) :
  Calls Tryz.prog 35 #[.string (bs l)] w (RetBelow w (nextV (next l))) := by
 match l with
 | [] =>
  go_enter Tryz.func35, Tryz.ntmps35
  go_wp2_with fail
  refine (takeByte_none (bs []) _ rfl).mono ?_
  rintro e w' ⟨rfl, n, rfl⟩
  go_wp2_with fail
  go_returns
  exact ⟨rfl, ((below_drewN ((Below.refl _ _).alloc (Nat.le_refl _) _) _).setCell (by simp) _).setCell (by simp) _⟩
 | k :: l =>
  rw [List.length_cons] at hs
  obtain ⟨n, r, er, ht⟩ : ∃ n r er, takeMost l 1048576 = (n, r, er) := ⟨_, _, _, rfl⟩
  have hp := takeMost_prop l 1048576 (by omega)
  have hn1 : (takeMost l 1048576).2.2 = 0 -> (takeMost l 1048576).1 <= 1048576 := takeMost_le l 1048576
  rw [next, ht]
  rw [ht] at hp hn1
  simp only at hp hn1 ⊢
  obtain ⟨hv, hrl, he⟩ := hp
  have HT := Lib.hid (show takeMost (bs l).data.toList 1048576 = (n, r, er) from ht)
  clear ht
  by_cases h1 : er ≠ 0
  ·rw [if_pos h1]
   have hb : ((er : Int) != 0) = true := by rw [bne_iff_ne]; omega
   clear h1 he hn1
   go_enter Tryz.func35, Tryz.ntmps35
   go_wp2_with fail
   refine (takeByte_some (bs (k :: l)) _ k l (by rw [bs_size]; unfold maxLen; simp; omega) rfl).mono ?_
   rintro e w' ⟨rfl, n1, rfl⟩
   go_wp2_with fail
   refine (takeMost_of (bs l) 1048576 HT.out _ (by rw [bs_size]; unfold maxLen; omega) (by omega) (by omega)).mono ?_
   rintro e w' ⟨rfl, n2, rfl⟩
   go_wp2_with fail
   go_returns
   exact ⟨rfl, ((below_drewN ((Below.refl _ _).alloc (Nat.le_refl _) _) _).setCell (by simp) _).setCell (by simp) _⟩
  ·rw [if_neg h1]
   obtain rfl : er = 0 := by omega
   have hn2 := hn1 rfl
   clear h1 he hn1
   by_cases h2 : r.length < 4 + n
   ·rw [if_pos h2]
    go_enter Tryz.func35, Tryz.ntmps35
    go_wp2_with fail
    refine (takeByte_some (bs (k :: l)) _ k l (by rw [bs_size]; unfold maxLen; simp; omega) rfl).mono ?_
    rintro e w' ⟨rfl, n1, rfl⟩
    go_wp2_with fail
    refine (takeMost_of (bs l) 1048576 HT.out _ (by rw [bs_size]; unfold maxLen; omega) (by omega) (by omega)).mono ?_
    rintro e w' ⟨rfl, n2, rfl⟩
    go_wp2_with fail
    go_returns
    exact ⟨rfl, ((below_drewN ((Below.refl _ _).alloc (Nat.le_refl _) _) _).setCell (by simp) _).setCell (by simp) _⟩
   ·rw [if_neg h2]
    obtain ⟨d, hd⟩ : ∃ d, d = (r.drop 4).take n := ⟨_, rfl⟩
    rw [<- hd]
    have h5 : 4 <= r.length := by omega
    obtain ⟨a, b, c, f, r', rfl⟩ : ∃ a b c f r', r = a :: b :: c :: f :: r' := by
     match r, h5 with
     | a :: b :: c :: f :: r', _ => exact ⟨a, b, c, f, r', rfl⟩
    have h4 : n <= r'.length := by simp at h2; omega
    have hsz : (bs (a :: b :: c :: f :: r')).size = r'.length + 4 := rfl
    have hr4 : r'.length + 4 <= l.length := by simpa using hrl
    have hi0 := index_bs Tryz.underlying9 .i64 (a :: b :: c :: f :: r') 0 0 a rfl rfl
    have hi1 := index_bs Tryz.underlying9 .i64 (a :: b :: c :: f :: r') 1 1 b rfl rfl
    have hi2 := index_bs Tryz.underlying9 .i64 (a :: b :: c :: f :: r') 2 2 c rfl rfl
    have hi3 := index_bs Tryz.underlying9 .i64 (a :: b :: c :: f :: r') 3 3 f rfl rfl
    have HN := Lib.hid (num4_bits a b c f r')
    have hdl : d.length <= 1048576 := by rw [hd]; exact Nat.le_trans (List.length_take_le _ _) hn2
    have hx1 : (bs (k :: l)).extract 0 1 = bs [k] := bs_extract _ _ _
    have hx2 : (bs (a :: b :: c :: f :: r')).extract 4 (4 + n) = bs d := by rw [bs_extract, hd, Nat.add_sub_cancel_left]
    have hS : ∀ w, Calls Tryz.prog 70 #[.string ((bs (k :: l)).extract 0 1)] w fun e w' => e = .returned (.int .u32 (sum [k])) /\ w = w' := fun w => by
     rw [hx1]; exact sum_any (bs [k]) w (by decide : 1 <= maxLen)
    have hM : ∀ w, Calls Tryz.prog 74 #[.int .u32 (sum [k]), .string ((bs (a :: b :: c :: f :: r')).extract 4 (4 + n))] w fun e w' => e = .returned (.int .u32 (rsum (k, d))) /\ w = w' := fun w => by
     rw [hx2]; exact more_of (bs d) (sum [k]) w (by rw [bs_size]; unfold maxLen; omega) (sum_lt _) (more_sum [k] d)
    have HS := Lib.hid hS
    have HM := Lib.hid hM
    have HX := Lib.hid hx2
    clear h2 hd h5 hrl hS hM hx1 hx2
    have step : ∀ (bb : Bool) (v : Value), (((rsum (k, d) : Nat) : Int) != bits .or .u32 (bits .or .u32 (bits .or .u32 ((a.toNat : Int) % 4294967296) ((b.toNat : Int) % 4294967296 * 256 % 4294967296)) ((c.toNat : Int) % 4294967296 * 65536 % 4294967296)) ((f.toNat : Int) % 4294967296 * 16777216 % 4294967296)) = bb ->
      Hid ((bb = true -> v = nextV (z, [], 4)) /\ (bb = false -> v = nextV ((k, d), (a :: b :: c :: f :: r').drop (4 + n), 0))) -> Calls Tryz.prog 35 #[.string (bs (k :: l))] w (RetBelow w v) := by
     intro bb v hbb hv
     go_enter Tryz.func35, Tryz.ntmps35
     go_wp2_with fail
     refine (takeByte_some (bs (k :: l)) _ k l (by rw [bs_size]; unfold maxLen; simp; omega) rfl).mono ?_
     rintro e w' ⟨rfl, n1, rfl⟩
     go_wp2_with fail
     refine (takeMost_of (bs l) 1048576 HT.out _ (by rw [bs_size]; unfold maxLen; omega) (by omega) (by omega)).mono ?_
     rintro e w' ⟨rfl, n2, rfl⟩
     go_wp2_with fail
     go_quiet (fail)
     go_wp2_with fail
     refine (HS.out _).mono ?_
     rintro e w' ⟨rfl, rfl⟩
     go_wp2_with fail
     refine (HM.out _).mono ?_
     rintro e w' ⟨rfl, rfl⟩
     clear hi0 hi1 hi2 hi3
     have hw4 : IntKind.i64.wrap (4 + (n : Int)) = 4 + (n : Int) := IntWalk.i64_in _ ⟨by omega, by omega⟩
     have hp4 : (0 : Int) <= 4 + (n : Int) := by omega
     rcases bb with _ | _
     ·obtain rfl : v = nextV ((k, d), (a :: b :: c :: f :: r').drop (4 + n), 0) := by simpa using hv.out.2
      clear hv
      go_wp2_with fail
      go_region
      all_goals go_wp2_with fail
      all_goals go_returns
      all_goals
       have HY : (bs (a :: b :: c :: f :: r')).extract (4 + n) (r'.length + 4) = bs ((a :: b :: c :: f :: r').drop (4 + n)) := by
        rw [bs_extract, List.take_of_length_le (by rw [List.length_drop]; simp)]
       exact ⟨by rw [HX.out, HY]; rfl, ((below_drewN ((Below.refl _ _).alloc (Nat.le_refl _) _) _).setCell (by simp) _).setCell (by simp) _⟩
     ·obtain rfl : v = nextV (z, [], 4) := by simpa using hv.out.1
      clear hv
      go_wp2_with fail
      go_returns
      exact ⟨rfl, ((below_drewN ((Below.refl _ _).alloc (Nat.le_refl _) _) _).setCell (by simp) _).setCell (by simp) _⟩
    by_cases h3 : rsum (k, d) = num4 (a :: b :: c :: f :: r')
    ·rw [if_neg (fun h => h h3)]
     refine step false _ ?_ ⟨fun h => (by cases h), fun _ => rfl⟩
     rw [HN.out, h3]
     simp
    ·rw [if_pos h3]
     refine step true _ ?_ ⟨fun _ => rfl, fun h => (by cases h)⟩
     rw [HN.out, bne_iff_ne]
     omega

theorem next_of {l r d : List UInt8} {k : UInt8} {er : Nat} (h : next l = ((k, d), r, er)) (w : World) (hs : l.length <= 9223372036854775807) :
  Calls Tryz.prog 35 #[.string (bs l)] w (RetBelow w (.tuple #[.agg #[.int .u8 k.toNat, .string (bs d)], .string (bs r), .int .i64 er])) := by
 have := next_any l w hs
 rw [h] at this
 exact this

def frcs (rs : List Rc) : List Value := rs.flatMap fun r => [.int .u8 r.1.toNat, .string (bs r.2)]
theorem frcs_snoc (rs : List Rc) (k : UInt8) (d : List UInt8) : frcs (rs ++ [(k, d)]) = frcs rs ++ [.int .u8 k.toNat, .string (bs d)] := by simp [frcs]
theorem rec_ty : ElemTy Tryz.prog 118 100 (.agg #[.int .u8 0, .string ByteArray.empty]) 2 24 :=
 ⟨Tryz.underlying118, info_parts (show (Tryz.prog.info? 100).map (fun i => (i.zero, i.size, i.bytes)) = some (some (.agg #[.int .u8 0, .string ByteArray.empty]), 2, 24) by kernel_rfl), rfl⟩

def lenOf : Value -> Nat
 | .string s => s.size
 | _ => 0

def RetAll (w : World) (e : TypeId) (rs : List Rc) (n : Int) (en : Ending) (w' : World) : Prop :=
 ∃ v, en = .returned (.tuple #[v, .int .i64 n]) /\ Buf w' e 2 v rs.length (frcs rs) /\ Below w.heap.size w w'

theorem all_any (l : List UInt8) (w : World) (hs : l.length <= 1000000000000) :
  Calls Tryz.prog 43 #[.string (bs l)] w (RetAll w 100 (recs l) ((l.length : Int) - ((left l).length : Nat))) := by
 have hll := left_le l
 go_enter Tryz.func43, Tryz.ntmps43
 go_wp2_with fail
 go_loopw [4, 5] (fun v s wr => ∃ (rs : List Rc) (m : List UInt8), s = .string (bs m) /\ rs.length * 6 + m.length <= l.length /\ App w (.slice none 0 0) 100 2 0 [] wr v rs.length (frcs rs) /\ Hid (rs ++ recs m = recs l /\ left m = left l))
  (fun _ s _ => lenOf s)
 case atStart => exact ⟨[], l, rfl, by simp, App.start' (Buf.nil w _ _), rfl, rfl⟩
 case round =>
  obtain ⟨rs, m, rfl, hlen, happ, hr⟩ := hrel
  obtain ⟨k, d, r, er, hn⟩ : ∃ k d r er, next m = ((k, d), r, er) := ⟨_, _, _, _, rfl⟩
  have HN := Lib.hid hn
  by_cases he : er = 0
  ·subst he
   have h6 := next_left m (by rw [hn])
   have hg := recs_go (l := m) (by rw [hn])
   rw [hn] at h6 hg
   simp only at h6 hg
   have HG := Lib.hid hg
   clear hg hn
   go_wp2_with fail
   refine (next_of HN.out _ (by omega)).mono ?_
   rintro e w1 ⟨rfl, hb1⟩
   have happ1 := happ.below hb1
   clear happ hb1
   go_wp2_with (at_builtin; refine wpList_append_lit rfl (.tmp 24) (.tmp 26) 118 rfl rec_ty rfl (happ1.alloc _) rfl (by simp) rfl (by simp [Value.oneCell']) (by simp only [maxLen]; omega) (by omega) ?_; intro v2 w2 happ2)
   go_roundw
   case rel => exact ⟨rs ++ [(k, d)], r, rfl, by simp; omega, by rw [frcs_snoc, List.length_append]; exact happ2, by rw [<- hr.out.1, HG.out.1]; simp, by rw [<- hr.out.2, HG.out.2]⟩
   case measure => simp only [lenOf, bs_size]; omega
  ·have hg := recs_stop (l := m) (by rw [hn]; exact he)
   have hb : ((er : Int) != 0) = true := by rw [bne_iff_ne]; omega
   have HG := Lib.hid hg
   clear hg hn he
   go_wp2_with fail
   refine (next_of HN.out _ (by omega)).mono ?_
   rintro e w1 ⟨rfl, hb1⟩
   have happ1 := happ.below hb1
   clear happ hb1
   go_wp2_with fail
   go_ret2
   have e1 : rs = recs l := by rw [<- hr.out.1, HG.out.1, List.append_nil]
   have e2 : m = left l := by rw [<- hr.out.2, HG.out.2]
   have hbuf := (happ1.alloc (.cells #[.int .u8 k.toNat, .string (bs d)] 100)).buf
   rw [Nat.zero_add, List.nil_append] at hbuf
   subst e1
   exact ⟨_, by rw [<- e2]; rfl, hbuf, (happ1.alloc _).below_nil⟩

end Go.Proofs.YtgabmfibfikdbaaGreatDoor

set_option maxHeartbeats 32000000
set_option maxRecDepth 10000
namespace Go.Proofs.YtgabmfibfikdbaaGreatDoor
open Go.RowKit Go.Bar Go.Bar.Leb Go.Bar.Frm Go.Bar.Idt Go.Bar.Met

theorem idOk_some {l : List UInt8} {t s : Nat} (h : parse l = some (t, s)) : idOk l = true := by unfold idOk; rw [h]; rfl
theorem idOk_none {l : List UInt8} (h : parse l = none) : idOk l = false := by unfold idOk; rw [h]; rfl

theorem isID_any (l : List UInt8) (w : World) (hl : l.length <= 1000000000000) :
  Calls Tryz.prog 71 #[.string (bs l)] w fun e w' => e = .returned (.bool (idOk l)) /\ w = w' := by
 have hp := parse_any l
 obtain ⟨u, hu⟩ : ∃ u, parse l = u := ⟨_, rfl⟩
 rw [hu] at hp
 rcases u with _ | ⟨t, s⟩
 ·rw [idOk_none hu]
  simp only [parseV] at hp
  have HP := Lib.hid hp
  clear hp hu
  go_enter Tryz.func71, Tryz.ntmps71
  go_wp2_with fail
  refine (HP.out _ hl).mono ?_
  rintro e w' ⟨rfl, rfl⟩
  go_wp2_with fail
  go_ret
  exact ⟨rfl, rfl⟩
 ·rw [idOk_some hu]
  simp only [parseV] at hp
  have HP := Lib.hid hp
  clear hp hu
  go_enter Tryz.func71, Tryz.ntmps71
  go_wp2_with fail
  refine (HP.out _ hl).mono ?_
  rintro e w' ⟨rfl, rfl⟩
  go_wp2_with fail
  go_ret
  exact ⟨rfl, rfl⟩

def scs (ss : List (List UInt8)) : List Value := ss.map fun s => .string (bs s)
theorem scs_length (ss : List (List UInt8)) : (scs ss).length = ss.length := List.length_map _
def fcs (fs : List Fl) : List Value := fs.flatMap fun f => [.string (bs f.name), .int .i64 f.size, .int .u32 f.sum]
theorem fcs_length : ∀ (fs : List Fl), (fcs fs).length = fs.length * 3
 | [] => rfl
 | f :: fs => by
  have := fcs_length fs
  unfold fcs at this ⊢
  simp only [List.flatMap_cons, List.length_append, List.length_cons, List.length_nil, this]; omega
theorem fcs_at : ∀ (fs : List Fl) (i : Nat) (f : Fl), fs[i]? = some f -> (fcs fs)[i * 3]? = some (.string (bs f.name)) /\ (fcs fs)[i * 3 + 1]? = some (.int .i64 f.size) /\ (fcs fs)[i * 3 + 2]? = some (.int .u32 f.sum)
 | [], i, x, h => by simp at h
 | y :: l, 0, x, h => by simp at h; subst h; simp [fcs]
 | y :: l, i + 1, x, h => by
  obtain ⟨h1, h2, h3⟩ := fcs_at l i x (by simpa using h)
  unfold fcs at h1 h2 h3 ⊢
  simp only [List.flatMap_cons, List.cons_append, List.nil_append]
  rw [show (i + 1) * 3 = i * 3 + 1 + 1 + 1 by omega]
  exact ⟨by simpa using h1, by simpa using h2, by simpa using h3⟩
theorem fcs_take : ∀ (l : List Fl) (k : Nat), (fcs l).take (k * 3) = fcs (l.take k)
 | [], k => by simp [fcs]
 | y :: l, 0 => by simp [fcs]
 | y :: l, k + 1 => by
  have := fcs_take l k
  unfold fcs at this ⊢
  simp only [List.flatMap_cons, List.take_succ_cons, List.cons_append, List.nil_append]
  rw [show (k + 1) * 3 = k * 3 + 1 + 1 + 1 by omega, List.take_succ_cons, List.take_succ_cons, List.take_succ_cons, this]

def FlsAt (w : World) (v : Value) (fs : List Fl) : Prop := SlAt w 3 v fs.length (fcs fs)
def SrcAt (w : World) (v : Value) (ss : List (List UInt8)) : Prop := SlAt w 1 v ss.length (scs ss)
theorem FlsAt.below {w w' : World} {v : Value} {fs : List Fl} (h : FlsAt w v fs) (hb : Below w.heap.size w w') : FlsAt w' v fs := SlAt.below h hb
theorem SrcAt.below {w w' : World} {v : Value} {ss : List (List UInt8)} (h : SrcAt w v ss) (hb : Below w.heap.size w w') : SrcAt w' v ss := SlAt.below h hb
theorem FlsAt.shape {w : World} {v : Value} {fs : List Fl} (h : FlsAt w v fs) : ∃ A c, v = .slice A fs.length c /\ fs.length <= c /\ c <= maxLen := SlAt.shape h
theorem SrcAt.shape {w : World} {v : Value} {ss : List (List UInt8)} (h : SrcAt w v ss) : ∃ A c, v = .slice A ss.length c /\ ss.length <= c /\ c <= maxLen := SlAt.shape h
theorem SrcAt.at_ {w : World} {A : Option Addr} {n c i : Nat} {ss : List (List UInt8)} {s : List UInt8} (h : SrcAt w (.slice A n c) ss) (hi : ss[i]? = some s) : ∃ b o, A = some ⟨b, o, none⟩ /\ b < w.heap.size /\ w.cell? ⟨b, o + i, none⟩ = some (.string (bs s)) := by
 have hlt : i < ss.length := (List.getElem?_eq_some_iff.1 hi).1
 obtain ⟨A', c', he, _⟩ := h.shape
 injection he with h1 h2 h3
 subst h1; subst h2; subst h3
 obtain ⟨b, o, rfl, hb, hc⟩ := SlAt.cells h (by omega)
 exact ⟨b, o, rfl, hb, hc i _ (by unfold scs; rw [List.getElem?_map, hi]; rfl)⟩
theorem FlsAt.at_ {w : World} {A : Option Addr} {n c i : Nat} {fs : List Fl} {f : Fl} (h : FlsAt w (.slice A n c) fs) (hi : fs[i]? = some f) : ∃ b o, A = some ⟨b, o, none⟩ /\ b < w.heap.size /\ w.cell? ⟨b, o + i * 3, none⟩ = some (.string (bs f.name)) /\ w.cell? ⟨b, o + i * 3 + 1, none⟩ = some (.int .i64 f.size) /\ w.cell? ⟨b, o + i * 3 + 2, none⟩ = some (.int .u32 f.sum) := by
 have hlt : i < fs.length := (List.getElem?_eq_some_iff.1 hi).1
 obtain ⟨A', c', he, _⟩ := h.shape
 injection he with h1 h2 h3
 subst h1; subst h2; subst h3
 obtain ⟨b, o, rfl, hb, hc⟩ := SlAt.cells h (by omega)
 obtain ⟨g1, g2, g3⟩ := fcs_at fs i _ hi
 exact ⟨b, o, rfl, hb, hc _ _ g1, hc _ _ g2, hc _ _ g3⟩

theorem mof_any (n d : List UInt8) (w : World) (hd : d.length <= 1000000000000) :
  Calls Tryz.prog 31 #[.string (bs n), .string (bs d)] w (RetBelow w (.agg #[.string (bs n), .int .i64 d.length, .int .u32 (sum d)])) := by
 have hs : ∀ w, Calls Tryz.prog 70 #[.string (bs d)] w fun e w' => e = .returned (.int .u32 (sum d)) /\ w = w' := fun w => by
  have := sum_any (bs d) w (by rw [bs_size]; unfold maxLen; omega)
  rwa [bs_data] at this
 have HS := Lib.hid hs
 clear hs
 go_enter Tryz.func31, Tryz.ntmps31
 go_wp2_with fail
 refine (HS.out _).mono ?_
 rintro e w' ⟨rfl, rfl⟩
 go_wp2_with fail
 refine bodyPost_ret (v := .agg #[.string (bs n), .int .i64 d.length, .int .u32 (sum d)]) (by simp [results, Tryz.results31, go_sem]) rfl ⟨rfl, ?_⟩
 repeat (refine Below.setCell ?_ (Nat.le_refl _) _)
 exact (Below.refl _ _).alloc (Nat.le_refl _) _

theorem holds_any (n d : List UInt8) (size : Int) (sm : Nat) (w : World) (hd : d.length <= 1000000000000) :
  Calls Tryz.prog 68 #[.agg #[.string (bs n), .int .i64 size, .int .u32 sm], .string (bs d)] w (RetBelow w (.bool (size == d.length && sm == sum d))) := by
 have hs : ∀ w, Calls Tryz.prog 70 #[.string (bs d)] w fun e w' => e = .returned (.int .u32 (sum d)) /\ w = w' := fun w => by
  have := sum_any (bs d) w (by rw [bs_size]; unfold maxLen; omega)
  rwa [bs_data] at this
 have HS := Lib.hid hs
 clear hs
 by_cases h : (size == (d.length : Int)) = true
 ·rw [h, Bool.true_and]
  obtain ⟨b, hb⟩ : ∃ b, (((sm : Nat) : Int) == ((sum d : Nat) : Int)) = b := ⟨_, rfl⟩
  have hb' : (sm == sum d) = b := by
   rw [<- hb, Bool.eq_iff_iff, beq_iff_eq, beq_iff_eq]; omega
  rw [hb']
  have HB := Lib.hid hb'
  clear hb'
  go_enter Tryz.func68, Tryz.ntmps68
  go_wp2_with fail
  have hs2 : ∀ w, Calls Tryz.prog 70 #[.string (bs d)] w fun e w' => e = .returned (.int .u32 (sum d)) /\ ∃ n, w' = w.drewN n := fun w => (HS.out w).mono (fun e w' ⟨h1, h2⟩ => ⟨h1, 0, h2.symm⟩)
  have HT := Lib.hid hs2
  clear hs2 HS
  go_quiet (first | (go_at_call 70; refine Calls.quiet_of (HT.out _)))
  go_wp2_with fail
  go_ret
  exact ⟨rfl, below_drewN ((Below.refl _ _).alloc (Nat.le_refl _) _) _⟩
 ·have h : (size == (d.length : Int)) = false := by simpa using h
  rw [h, Bool.false_and]
  go_enter Tryz.func68, Tryz.ntmps68
  go_wp2_with fail
  go_quiet (fail)
  go_wp2_with fail
  go_ret
  exact ⟨rfl, below_drewN ((Below.refl _ _).alloc (Nat.le_refl _) _) _⟩

end Go.Proofs.YtgabmfibfikdbaaGreatDoor

namespace Go.Proofs.YtgabmfibfikdbaaGreatDoor
open Go.RowKit Go.Bar Go.Bar.Leb Go.Bar.Frm Go.Bar.Idt Go.Bar.Met

theorem wrap_w64 (z : Int) : IntKind.u64.wrap z = ((w64 z : Nat) : Int) := by
 unfold w64
 rw [IntKind.wrap_u64]
 omega
theorem uint_w (V : Value) (xs : List UInt8) (z : Int) (W : World) (hx : xs.length + 10 <= 140737488355328) (hb : BBuf W 5 V xs) : Calls Tryz.prog 48 #[V, .int .u64 (IntKind.u64.wrap z)] W (RetB W V 5 xs (u (w64 z))) := by
 rw [wrap_w64]
 exact uint_any V xs (w64 z) W (w64_lt z) hx hb

end Go.Proofs.YtgabmfibfikdbaaGreatDoor

set_option maxHeartbeats 32000000
set_option maxRecDepth 10000
namespace Go.Proofs.YtgabmfibfikdbaaGreatDoor
open Go.RowKit Go.Bar Go.Bar.Leb Go.Bar.Lab

def pcs (l : List Pr) : List Value := l.flatMap fun p => [.string (bs p.1), .string (bs p.2)]
theorem pcs_append (l m : List Pr) : pcs (l ++ m) = pcs l ++ pcs m := List.flatMap_append
theorem pcs_snoc (l : List Pr) (p : Pr) : pcs (l ++ [p]) = pcs l ++ [.string (bs p.1), .string (bs p.2)] := by simp [pcs]
theorem pcs_one (l : List Pr) : ∀ u ∈ pcs l, u.oneCell' = true := by
 intro u hu
 unfold pcs at hu
 rw [List.mem_flatMap] at hu
 obtain ⟨p, _, hp⟩ := hu
 simp only [List.mem_cons, List.not_mem_nil, or_false] at hp
 rcases hp with rfl | rfl <;> rfl
def PsAt (w : World) (v : Value) (l : List Pr) : Prop := SlAt w 2 v l.length (pcs l)
section
variable {w w' : World} {v : Value} {l : List Pr}
theorem PsAt.below (h : PsAt w v l) (hb : Below w.heap.size w w') : PsAt w' v l := SlAt.below h hb
theorem PsAt.shape (h : PsAt w v l) : ∃ A c, v = .slice A l.length c /\ l.length <= c /\ c <= maxLen := SlAt.shape h
theorem PsAt.at_ {A : Option Addr} {n c i : Nat} {p : Pr} (h : PsAt w (.slice A n c) l) (hi : l[i]? = some p) : ∃ b o, A = some ⟨b, o, none⟩ /\ b < w.heap.size /\ w.cell? ⟨b, o + i * 2, none⟩ = some (.string (bs p.1)) /\ w.cell? ⟨b, o + i * 2 + 1, none⟩ = some (.string (bs p.2)) := by
 have hlt : i < l.length := (List.getElem?_eq_some_iff.1 hi).1
 obtain ⟨A', c', he, _⟩ := h.shape
 injection he with h1 h2 h3
 subst h1; subst h2; subst h3
 obtain ⟨b, o, rfl, hb, hc⟩ := SlAt.cells h (by omega)
 obtain ⟨g1, g2⟩ := flat2 (fun p : Pr => .string (bs p.1)) (fun p : Pr => .string (bs p.2)) l i p hi
 exact ⟨b, o, rfl, hb, hc _ _ g1, hc _ _ g2⟩
end
theorem below_alloc1 (w : World) (o : Obj) : Below w.heap.size w (w.alloc o) := (Below.refl _ _).alloc (Nat.le_refl _) o

theorem byte_rng (c : UInt8) : (c.toNat : Int) < 48 \/ (48 <= (c.toNat : Int) /\ (c.toNat : Int) <= 57) \/ (57 < (c.toNat : Int) /\ (c.toNat : Int) < 65) \/ (65 <= (c.toNat : Int) /\ (c.toNat : Int) <= 90) \/ (90 < (c.toNat : Int) /\ (c.toNat : Int) < 97 /\ (c.toNat : Int) ≠ 95) \/ (c.toNat : Int) = 95 \/
  (97 <= (c.toNat : Int) /\ (c.toNat : Int) <= 122) \/ 122 < (c.toNat : Int) := by omega
theorem letter_nat (c : UInt8) : letter c = decide (97 <= (c.toNat : Int) /\ (c.toNat : Int) <= 122 \/ 65 <= (c.toNat : Int) /\ (c.toNat : Int) <= 90 \/ (c.toNat : Int) = 95) := by
 unfold letter
 rw [decide_eq_decide, UInt8.le_iff_toNat_le, UInt8.le_iff_toNat_le, UInt8.le_iff_toNat_le, UInt8.le_iff_toNat_le, <- UInt8.toNat_inj]
 simp
 omega
theorem digit_nat (c : UInt8) : digit c = decide (48 <= (c.toNat : Int) /\ (c.toNat : Int) <= 57) := by
 unfold digit
 rw [decide_eq_decide, UInt8.le_iff_toNat_le, UInt8.le_iff_toNat_le]
 simp
 omega
theorem sign_letter {c : UInt8} (h : 97 <= (c.toNat : Int) /\ (c.toNat : Int) <= 122 \/ 65 <= (c.toNat : Int) /\ (c.toNat : Int) <= 90 \/ (c.toNat : Int) = 95) (f : Bool) : signB f c = true := by
 unfold signB; rw [letter_nat, decide_eq_true h, Bool.true_or]
theorem sign_digit {c : UInt8} (h : 48 <= (c.toNat : Int) /\ (c.toNat : Int) <= 57) (f : Bool) : signB f c = !f := by
 unfold signB
 rw [letter_nat, digit_nat, decide_eq_false (by omega), decide_eq_true h, Bool.false_or, Bool.and_true]
theorem sign_other {c : UInt8} (h : ¬ (97 <= (c.toNat : Int) /\ (c.toNat : Int) <= 122 \/ 65 <= (c.toNat : Int) /\ (c.toNat : Int) <= 90 \/ (c.toNat : Int) = 95)) (h2 : ¬ (48 <= (c.toNat : Int) /\ (c.toNat : Int) <= 57)) (f : Bool) : signB f c = false := by
 unfold signB
 rw [letter_nat, digit_nat, decide_eq_false h, decide_eq_false h2, Bool.and_false]; rfl

def signs (l : List UInt8) (k : Nat) : Prop := ∀ j c, j < k -> l[j]? = some c -> signB (j == 0) c = true
theorem signs_zero (l : List UInt8) : signs l 0 := fun j _ h => absurd h (Nat.not_lt_zero j)
theorem signs_succ {l : List UInt8} {k : Nat} {c : UInt8} (h : signs l k) (hc : l[k]? = some c) (hs : signB (k == 0) c = true) : signs l (k + 1) := by
 intro j d hj hd
 by_cases hjk : j < k
 ·exact h j d hjk hd
 ·obtain rfl : j = k := by omega
  rw [hc] at hd
  injection hd with hd
  subst hd
  exact hs
theorem sign_weak {c : UInt8} {b : Bool} (h : signB b c = true) : signB false c = true := by
 unfold signB at *
 rcases hl : letter c with _ | _
 ·rw [hl] at h
  simp at h ⊢
  exact h.2
 ·rfl
theorem nameB_signs {l : List UInt8} (h : signs l l.length) : nameB l = (!l.isEmpty && decide (l.length <= 40)) := by
 unfold nameB
 cases l with
 | nil => rfl
 | cons c r =>
  have h0 : signB true c = true := h 0 c (by simp) rfl
  have ha : (c :: r).all (signB false) = true := by
   rw [List.all_eq_true]
   intro x hx
   obtain ⟨i, hi, he⟩ := List.mem_iff_getElem.1 hx
   exact sign_weak (h i x hi (by rw [List.getElem?_eq_getElem hi, he]))
  rw [ha]
  simp [h0]
theorem nameB_bad {l : List UInt8} {k : Nat} {c : UInt8} (hc : l[k]? = some c) (hs : signB (k == 0) c = false) : nameB l = false := by
 unfold nameB
 cases l with
 | nil => rfl
 | cons d r =>
  match k with
  | 0 =>
   simp at hc
   subst hc
   have hs : signB true d = false := hs
   simp [hs]
  | k + 1 =>
   have : (d :: r).all (signB false) = false := by
    rw [Bool.eq_false_iff]
    intro h
    rw [List.all_eq_true] at h
    have := h c (List.mem_of_getElem? hc)
    rw [show signB ((k + 1) == 0) c = signB false c from rfl, this] at hs
    cases hs
   rw [this]
   simp

theorem goodName_any (l : List UInt8) (w : World) (hl : l.length <= 1000000000000) :
  Calls Tryz.prog 95 #[.string (bs l)] w (RetBelow w (.bool (nameB l))) := by
 obtain ⟨Z, hZ⟩ : ∃ Z, Z = nameB l := ⟨_, rfl⟩
 rw [<- hZ]
 have HZ := Lib.hid hZ
 clear hZ
 go_enter Tryz.func95, Tryz.ntmps95
 go_wp2_with (refine wpList_bytes rfl (.tmp 6) 96 9 rfl bytes_ty Tryz.underlying9 _ rfl (by rw [bs_size]; unfold maxLen; omega) ?_; intro v w1 hb hbl _; obtain ⟨A, c, rfl, hlc⟩ := Buf.shape hb; dsimp only)
 rw [bs_data] at *
 go_loop [9] (fun i => ∃ k : Nat, k <= l.length /\ i = .int .i64 k /\ Hid (signs l k)) (fun i => l.length - (intOf i).toNat)
 case atStart => exact ⟨0, Nat.zero_le _, rfl, Lib.hid (signs_zero l)⟩
 case round =>
  obtain ⟨k, hk, rfl, hsg⟩ := hrel
  by_cases hgo : k < l.length
  ·obtain ⟨c, hc⟩ : ∃ c, l[k]? = some c := ⟨_, List.getElem?_eq_getElem hgo⟩
   obtain ⟨b, o, rfl, hbb, hcc⟩ := Buf.cell hb (by omega)
   have hcell : w1.cell? ⟨b, o + k, none⟩ = some (.int .u8 (c.toNat : Int)) := by
    rw [hcc k (by omega)]; simp [bcs, hc]
   have HC := Lib.hid hc
   have HB := Lib.hid hb
   have h0 : k = 0 \/ 0 < k := by omega
   have hrng := byte_rng c
   clear hc hb hcc
   rcases hrng with h1 | ⟨h1, h2⟩ | ⟨h1, h2⟩ | ⟨h1, h2⟩ | ⟨h1, h2, h3⟩ | h1 | ⟨h1, h2⟩ | h1
   case inr.inl =>
    have hs := sign_digit ⟨h1, h2⟩
    have HS := Lib.hid hs
    clear hs
    have hne : ((c.toNat : Int) == 95) = false := by rw [beq_eq_false_iff_ne]; omega
    rcases h0 with h0 | h0
    ·have hk0 : ((k : Int) == 0) = true := by rw [beq_iff_eq]; omega
     have hk1 : (k == 0) = true := by rw [beq_iff_eq]; omega
     have HK1 := Lib.hid hk1
     clear hk1 h0
     go_wp2_with fail
     go_ret
     exact ⟨by rw [HZ.out, nameB_bad HC.out (by rw [HS.out, HK1.out]; rfl)]; rfl, hbl⟩
    ·have hk0 : ((k : Int) == 0) = false := by rw [beq_eq_false_iff_ne]; omega
     go_wp2_with fail
     go_round
     case rel => exact ⟨k + 1, by omega, by go_num, Lib.hid (signs_succ hsg.out HC.out (by rw [HS.out, show (k == 0) = false from by rw [beq_eq_false_iff_ne]; omega]; rfl))⟩
     case measure => simp [intOf]; omega
   case inr.inr.inr.inr.inr.inl =>
    have hs := sign_letter (.inr (.inr h1))
    have HS := Lib.hid hs
    have hne : ((c.toNat : Int) == 95) = true := by rw [beq_iff_eq]; omega
    clear hs h1
    have h1 : (c.toNat : Int) <= 95 /\ 95 <= (c.toNat : Int) := by rw [beq_iff_eq] at hne; omega
    obtain ⟨h1, h2⟩ := h1
    go_wp2_with fail
    go_round
    case rel => exact ⟨k + 1, by omega, by go_num, Lib.hid (signs_succ hsg.out HC.out (HS.out _))⟩
    case measure => simp [intOf]; omega
   case inr.inr.inr.inl =>
    have hs := sign_letter (.inr (.inl ⟨h1, h2⟩))
    have HS := Lib.hid hs
    clear hs
    go_wp2_with fail
    go_round
    case rel => exact ⟨k + 1, by omega, by go_num, Lib.hid (signs_succ hsg.out HC.out (HS.out _))⟩
    case measure => simp [intOf]; omega
   case inr.inr.inr.inr.inr.inr.inl =>
    have hs := sign_letter (.inl ⟨h1, h2⟩)
    have HS := Lib.hid hs
    clear hs
    go_wp2_with fail
    go_round
    case rel => exact ⟨k + 1, by omega, by go_num, Lib.hid (signs_succ hsg.out HC.out (HS.out _))⟩
    case measure => simp [intOf]; omega
   all_goals
    have hs : ∀ f, signB f c = false := sign_other (by omega) (by omega)
    have HS := Lib.hid hs
    clear hs
    have hne : ((c.toNat : Int) == 95) = false := by rw [beq_eq_false_iff_ne]; omega
    first | (have hx : (c.toNat : Int) < 48 := (by omega)) | ((have hx : 57 < (c.toNat : Int) := (by omega)); (have hy : 48 <= (c.toNat : Int) := (by omega)))
    try (have hx3 : 65 <= (c.toNat : Int) := (by omega))
    try (have hx4 : decide ((c.toNat : Int) <= 90) = false := decide_eq_false (by omega))
    try (have hx5 : decide ((c.toNat : Int) <= 122) = false := decide_eq_false (by omega))
    rcases h0 with h0 | h0
    ·have hk0 : ((k : Int) == 0) = true := by rw [beq_iff_eq]; omega
     clear h0
     go_wp2_with fail
     go_ret
     exact ⟨by rw [HZ.out, nameB_bad HC.out (HS.out _)]; rfl, hbl⟩
    ·have hk0 : ((k : Int) == 0) = false := by rw [beq_eq_false_iff_ne]; omega
     go_wp2_with fail
     go_ret
     exact ⟨by rw [HZ.out, nameB_bad HC.out (HS.out _)]; rfl, hbl⟩
  ·obtain rfl : k = l.length := by omega
   have hz := HZ.out
   rw [nameB_signs hsg.out] at hz
   have HZ2 := Lib.hid hz
   clear hz
   have h0 : l = [] \/ 0 < l.length := by cases l <;> simp
   rcases h0 with rfl | h0
   ·go_wp2_with fail
    go_ret
    exact ⟨by rw [HZ2.out]; rfl, hbl⟩
   ·have hne : (l != []) = true := by rw [bne_iff_ne]; intro h; rw [h] at h0; exact absurd h0 (by simp)
    have he : l.isEmpty = false := by cases l; exact absurd h0 (by simp); rfl
    by_cases h40 : l.length <= 40
    ·go_wp2_with fail
     go_ret
     exact ⟨by rw [HZ2.out, he, decide_eq_true h40, decide_eq_true (by omega)]; rfl, hbl⟩
    ·go_wp2_with fail
     go_ret
     exact ⟨by rw [HZ2.out, he, decide_eq_false h40, decide_eq_false (by omega)]; rfl, hbl⟩

end Go.Proofs.YtgabmfibfikdbaaGreatDoor

namespace Go.Proofs.YtgabmfibfikdbaaGreatDoor
open Go.RowKit Go.Bar Go.Bar.Leb Go.Bar.Lab Go.Bar.Xor Go.Bar.Mrg

structure Rv where
 ls : List Pr
 ss : List Sm
 la : Option Addr
 lc : Nat
 sa : Option Addr
 sc : Nat
def encR (x : Rv) : List Value := [.slice x.la x.ls.length x.lc, .slice x.sa x.ss.length x.sc]
def RAt (w : World) (x : Rv) : Prop := PsAt w (.slice x.la x.ls.length x.lc) x.ls /\ SmsAt w (.slice x.sa x.ss.length x.sc) x.ss
theorem RAt.below {w w' : World} {x : Rv} (h : RAt w x) (hb : Below w.heap.size w w') : RAt w' x := ⟨h.1.below hb, h.2.below hb⟩

def rcs (l : List Rv) : List Value := l.flatMap encR
theorem encR_two (x : Rv) : (encR x).length = 2 := rfl
theorem rcs_app (l m : List Rv) : rcs (l ++ m) = rcs l ++ rcs m := List.flatMap_append
def plR (x : Rv) : Row := (x.ls, x.ss)
def TbAt (w : World) (v : Value) (t : List Rv) : Prop := SlAt w 2 v t.length (rcs t) /\ ∀ x ∈ t, RAt w x
section
variable {w w' : World} {v : Value} {t : List Rv}
theorem TbAt.below (h : TbAt w v t) (hb : Below w.heap.size w w') : TbAt w' v t := ⟨h.1.below hb, fun x hx => (h.2 x hx).below hb⟩
theorem TbAt.at_ {A : Option Addr} {n c i : Nat} {x : Rv} (h : TbAt w (.slice A n c) t) (hi : t[i]? = some x) : ∃ b o, A = some ⟨b, o, none⟩ /\ w.cell? ⟨b, o + i * 2, none⟩ = some (.slice x.la x.ls.length x.lc) /\ w.cell? ⟨b, o + i * 2 + 1, none⟩ = some (.slice x.sa x.ss.length x.sc) /\ RAt w x := by
 have hlt : i < t.length := (List.getElem?_eq_some_iff.1 hi).1
 obtain ⟨A', c', he, _⟩ := h.1.shape
 injection he with e1 e2 e3
 subst e1; subst e2; subst e3
 obtain ⟨b, o, rfl, hb, hc⟩ := SlAt.cells h.1 (by omega)
 have g := flat_get encR 2 encR_two t i x hi
 have g0 := hc _ _ (g 0 (by omega))
 have g1 := hc _ _ (g 1 (by omega))
 exact ⟨b, o, rfl, g0, (by rw [Nat.add_assoc]; exact g1), h.2 x (List.mem_of_getElem? hi)⟩
end
theorem TbAt.at2 {w : World} {t : List Rv} {b o n c i : Nat} {x : Rv} (h : TbAt w (.slice (some ⟨b, o, none⟩) n c) t) (hi : t[i]? = some x) : w.cell? ⟨b, o + i * 2, none⟩ = some (.slice x.la x.ls.length x.lc) /\ w.cell? ⟨b, o + i * 2 + 1, none⟩ = some (.slice x.sa x.ss.length x.sc) /\ RAt w x := by
 obtain ⟨b', o', he, h1, h2, h3⟩ := h.at_ hi
 injection he with he
 injection he with e1 e2 _
 subst e1; subst e2
 exact ⟨h1, h2, h3⟩

theorem mrow_ty : ElemTy Tryz.prog 56 94 (.agg #[.slice none 0 0, .slice none 0 0]) 2 48 :=
 ⟨Tryz.underlying56, info_parts (show (Tryz.prog.info? 94).map (fun i => (i.zero, i.size, i.bytes)) = some (some (.agg #[.slice none 0 0, .slice none 0 0]), 2, 48) by kernel_rfl), rfl⟩

theorem rrow_ty : ElemTy Tryz.prog 57 62 (.agg #[.slice none 0 0, .slice none 0 0]) 2 48 :=
 ⟨Tryz.underlying57, info_parts (show (Tryz.prog.info? 62).map (fun i => (i.zero, i.size, i.bytes)) = some (some (.agg #[.slice none 0 0, .slice none 0 0]), 2, 48) by kernel_rfl), rfl⟩

def RTb (W w : World) (T : TypeId) (v : Value) (t : List Rv) : Prop := NBuf W w T 2 v t.length (rcs t) /\ ∀ x ∈ t, RAt w x
section
variable {W w w' : World} {T : TypeId} {v : Value} {t : List Rv}
theorem RTb.tb (h : RTb W w T v t) : TbAt w v t := ⟨h.1.slice, h.2⟩
theorem RTb.below (h : RTb W w T v t) (hb : Below w.heap.size w w') : RTb W w' T v t := ⟨h.1.then_below hb, fun x hx => (h.2 x hx).below hb⟩
theorem RTb.after {W0 : World} (h : RTb W w T v t) (hb : Below W0.heap.size W0 W) : RTb W0 w T v t := ⟨h.1.after hb, h.2⟩
theorem TbAt.shape {w : World} {v : Value} {t : List Rv} (h : TbAt w v t) : ∃ A c, v = .slice A t.length c /\ t.length <= c /\ c <= maxLen := h.1.shape
end

def RetTb (w : World) (T : TypeId) (R : List Row) (e : Ending) (w' : World) : Prop := ∃ v t, e = .returned v /\ RTb w w' T v t /\ t.map plR = R
end Go.Proofs.YtgabmfibfikdbaaGreatDoor
