/-
  Layer 2: the walks of the document's answer (barographref02): it computes what frame computes.
-/
import Derived.Test.YtdmhjejjgcfplaaFrmN
import Derived.Test.YtdmhjejjgcfplaaLebR
namespace Go.Proofs.Ytdmhjejjgcfplaa
open Go.RowKit Go.Bar Go.Bar.Leb Go.Bar.Frm

theorem ref_yes {D y : Nat} (hD : D < 4294967296) (h : (((D : Int) + (y : Int)) % 2 == 1) = true) : bits .xor .u32 ((D : Int) / 2) 2197175160 = ((bstep D y : Nat) : Int) := by
  rw [beq_iff_eq] at h
  unfold bstep
  rw [if_pos (by omega)]
  have := u32_xor_nat (D / 2) 2197175160 (by omega) (by omega)
  rw [← this]
  rfl
theorem ref_no {D y : Nat} (h : (((D : Int) + (y : Int)) % 2 == 1) = false) : (D : Int) / 2 = ((bstep D y : Nat) : Int) := by
  rw [beq_eq_false_iff_ne] at h
  unfold bstep
  rw [if_neg (by omega)]
  rfl

set_option maxHeartbeats 1000000 in
set_option maxRecDepth 10000 in
theorem refSum_any (s : ByteArray) (w : World) (hs : s.size ≤ 1000000000000) :
    Calls Try.prog 48 #[.string s] w (RetBelow w (.int .u32 (sum s.data.toList))) := by
  go_enter Try.func48, Try.ntmps48
  go_wp2_with ((with_reducible refine wpList_bytes rfl (.tmp 8) 41 9 rfl bytes_ty Try.underlying9 s rfl (by unfold maxLen; omega) ?_); intro v w1 hb hbl hown; obtain ⟨A, c, rfl, hle⟩ := Buf.shape hb; clear hown)
  go_loop [3, 11] (fun c i => ∃ k C : Nat, k ≤ s.data.toList.length ∧ i = .int .i64 k ∧ C < 4294967296 ∧ c = .int .u32 C ∧ Hid (C = crc (no 0) (s.data.toList.take k))) (fun _ i => s.data.toList.length - (intOf i).toNat)
  case atStart => exact ⟨0, 4294967295, Nat.zero_le _, rfl, by omega, rfl, rfl⟩
  case round =>
    obtain ⟨k, C, hk, rfl, hC, rfl, HC⟩ := hrel
    by_cases hlt : k < s.data.toList.length
    · obtain ⟨b, o, rfl, hbw, hc⟩ := Buf.cell hb (by omega)
      obtain ⟨x, hx⟩ : ∃ x, s.data.toList[k]? = some x := ⟨_, List.getElem?_eq_getElem hlt⟩
      have hck : w1.cell? ⟨b, o + k, none⟩ = some (.int .u8 x.toNat) := by rw [hc k (by omega)]; simp only [bcs, List.getElem?_map, hx]; rfl
      have hx2 := UInt8.toNat_lt x
      have HX := Lib.hid hx
      clear hc hx
      go_wp2
      go_loop [3, 5, 6] (fun c b i => ∃ j D y : Nat, j ≤ 8 ∧ i = .int .i64 j ∧ D < 4294967296 ∧ y < 256 ∧ c = .int .u32 D ∧ b = .int .u8 y ∧ Hid (D = bsteps j C x.toNat ∧ y = x.toNat / 2 ^ j)) (fun _ _ i => 8 - (intOf i).toNat)
      case atStart => exact ⟨0, C, x.toNat, by omega, rfl, hC, hx2, rfl, rfl, rfl, by simp⟩
      case round =>
        obtain ⟨j, D, y, hj, rfl, hD, hy, rfl, rfl, HD⟩ := hrel
        by_cases hj8 : j < 8
        · go_wp2
          all_goals
            go_round
            case rel => exact ⟨j + 1, bstep D y, y / 2, by omega, by go_num, bstep_lt hD, by omega, by first | rw [ref_yes hD (by assumption)] | rw [ref_no (by assumption)], rfl, by rw [HD.out.1, HD.out.2]; rfl, by rw [HD.out.2, Nat.div_div_eq_div_mul, Nat.pow_succ]⟩
            case measure => simp [intOf]; omega
        · obtain rfl : j = 8 := by omega
          go_wp2
          go_round
          case rel => exact ⟨k + 1, D, by omega, by go_num, hD, rfl, by
            obtain ⟨h1, h2⟩ := List.getElem?_eq_some_iff.1 HX.out
            show D = _
            rw [HD.out.1, HC.out, List.take_succ_eq_append_getElem h1, crc_snoc, h2]⟩
          case measure => simp [intOf]; omega
    · go_wp2
      go_ret
      refine ⟨?_, hbl⟩
      rw [List.take_of_length_le (by omega)] at HC
      have := crc_lt s.data.toList (no_lt 0)
      have e : (4294967295 - (C : Int)) = ((sum s.data.toList : Nat) : Int) := by
        rw [HC.out]; unfold sum more
        show _ = ((4294967295 - crc (no 0) s.data.toList : Nat) : Int)
        omega
      rw [← e]
      rfl

theorem sum4_next (S j : Nat) (h : j < 4) : (sum4 S).take (j + 1) = (sum4 S).take j ++ [UInt8.ofNat (S / 256 ^ j)] := by
  rcases j with _ | _ | _ | _ | j <;> first | (exfalso; omega) | simp [sum4]

set_option maxHeartbeats 1000000 in
set_option maxRecDepth 10000 in
theorem refBytes_any (k : UInt8) (d : List UInt8) (W : World) (hd : d.length ≤ 100000000000) :
    Calls Try.prog 33 #[.agg #[.int .u8 k.toNat, .string (bs d)]] W (RetBelow W (.string (bs (rec (k, d))))) := by
  have hc1 := conv_one bytes_ty 9 Try.underlying9 (W.alloc (.cells #[.int .u8 k.toNat, .string (bs d)] 66)) (k.toNat : Int) k rfl
  rw [show (W.alloc (.cells #[.int .u8 k.toNat, .string (bs d)] 66)).heap.size = W.heap.size + 1 by simp] at hc1
  have hul := u_len d.length (by omega)
  go_enter Try.func33, Try.ntmps33
  go_wp2_with fail
  refine (refSum_any (bs (k :: d)) _ (by rw [bs_size]; simp; omega)).mono ?_
  rintro e w1 ⟨rfl, hb1⟩
  have c1 : w1.cell? ⟨W.heap.size, 1, none⟩ = some (.string (bs d)) := by rw [hb1.cell (by simp; omega)]; simp
  have hbl : Below (W.alloc (.cells #[.int .u8 k.toNat, .string (bs d)] 66)).heap.size (W.alloc (.cells #[.int .u8 k.toNat, .string (bs d)] 66)) w1 := ((Below.refl _ _).alloc (Nat.le_refl _) _).trans (hb1.mono (by simp))
  clear hb1 hc1
  go_wp2_with fail
  refine (refUint_any d.length _ (by omega)).mono ?_
  rintro e w2 ⟨rfl, hb2⟩
  have hbl := below_trans hbl hb2
  clear hb2 c1
  have hS := sum_lt (k :: d)
  rw [bs_data]
  obtain ⟨S, hSe⟩ : ∃ S, S = sum (k :: d) := ⟨_, rfl⟩
  rw [← hSe] at hS ⊢
  have HS := Lib.hid hSe
  clear hSe
  go_wp2_with fail
  go_loopw [4, 5, 6] (fun m s i wr => ∃ (j M : Nat), j ≤ 4 ∧ i = .int .i64 j ∧ M < 4294967296 ∧ m = .int .u32 M ∧ s = .string (bs (k :: (u d.length ++ (sum4 S).take j))) ∧ Hid (M = S / 256 ^ j) ∧ Below (W.alloc (.cells #[.int .u8 k.toNat, .string (bs d)] 66)).heap.size (W.alloc (.cells #[.int .u8 k.toNat, .string (bs d)] 66)) wr)
    (fun _ _ i _ => 4 - (intOf i).toNat)
  case atStart => exact ⟨0, S, by omega, rfl, hS, rfl, by simp, (by simp : S = S / 256 ^ 0), hbl⟩
  case round =>
    obtain ⟨j, M, hj, rfl, hM, rfl, rfl, HM, hbr⟩ := hrel
    clear hbl
    have c1 : wr.cell? ⟨W.heap.size, 1, none⟩ = some (.string (bs d)) := by rw [hbr.cell (by simp)]; simp
    by_cases hj4 : j < 4
    · have hc1 := fun w => conv_one bytes_ty 9 Try.underlying9 w ((M : Int) % 256) (UInt8.ofNat M) (by simp)
      go_wp2_with fail
      go_roundw
      case rel => exact ⟨j + 1, M / 256, by omega, by go_num, by omega, rfl, by rw [sum4_next S j hj4, HM.out], (by rw [HM.out, Nat.div_div_eq_div_mul, Nat.pow_succ] : M / 256 = S / 256 ^ (j + 1)), hbr.alloc hbr.size _⟩
      case measure => simp [intOf]; omega
    · obtain rfl : j = 4 := by omega
      go_wp2_with fail
      go_ret
      refine ⟨?_, ((Below.refl _ _).alloc (Nat.le_refl _) _).trans (hbr.mono (by simp))⟩
      have e : bs (k :: (u d.length ++ (sum4 S ++ d))) = bs (rec (k, d)) := by simp [rec, rsum, HS.out]
      rw [← e]
      rfl

/-- a text that does not begin so -/
theorem refNext_bytes (k : UInt8) (l : List UInt8) (n : Nat) (r : List UInt8) (h : takeMost l 1048576 = (n, r, 0)) (h2 : 4 + n ≤ r.length) :
    rec (k, (r.drop 4).take n) = (k :: l).take (rec (k, (r.drop 4).take n)).length ↔ rsum (k, (r.drop 4).take n) = num4 r := by
  have ho := takeMost_one l 1048576 (by rw [h])
  rw [h] at ho
  simp only at ho
  have hd : ((r.drop 4).take n).length = n := by rw [List.length_take, List.length_drop]; omega
  have hl : rec (k, (r.drop 4).take n) = k :: (u n ++ (sum4 (rsum (k, (r.drop 4).take n)) ++ (r.drop 4).take n)) := by simp [rec, hd]
  have hll : (rec (k, (r.drop 4).take n)).length = (u n).length + 4 + n + 1 := by rw [rec_len, hd]; omega
  have e : (k :: l).take ((u n).length + 4 + n + 1) = k :: (u n ++ (r.take 4 ++ (r.drop 4).take n)) := by
    rw [List.take_succ_cons, ← ho, show (u n).length + 4 + n = (u n).length + (4 + n) by omega, List.take_length_add_append, List.take_add]
  rw [hll, e, hl]
  constructor
  · intro he
    have h3 := List.append_cancel_left (List.cons.inj he).2
    have h4 := (List.append_inj h3 (by rw [sum4_len, List.length_take]; omega)).1
    have h5 := congrArg num4 h4
    have h6 := num4_sum4 (rsum (k, (r.drop 4).take n)) (sum_lt _) []
    rw [List.append_nil] at h6
    rw [h6] at h5
    rw [h5]
    match r, h2 with
    | a :: b :: c :: f :: r', _ => rfl
    | [], h | [_], h | [_, _], h | [_, _, _], h => simp at h <;> omega
  · intro he
    rw [he, sum4_num4 r (by omega)]
theorem refNext_len (k : UInt8) (l : List UInt8) (n : Nat) (r : List UInt8) (h : takeMost l 1048576 = (n, r, 0)) (h2 : 4 + n ≤ r.length) :
    (rec (k, (r.drop 4).take n)).length ≤ l.length + 1 ∧ (k :: l).drop (rec (k, (r.drop 4).take n)).length = r.drop (4 + n) := by
  have ho := takeMost_one l 1048576 (by rw [h])
  rw [h] at ho
  simp only at ho
  have hd : ((r.drop 4).take n).length = n := by rw [List.length_take, List.length_drop]; omega
  have hll : (rec (k, (r.drop 4).take n)).length = (u n).length + 4 + n + 1 := by rw [rec_len, hd]; omega
  have := congrArg List.length ho
  rw [List.length_append] at this
  refine ⟨by rw [hll]; omega, ?_⟩
  rw [hll, List.drop_succ_cons, ← ho, show (u n).length + 4 + n = (u n).length + (4 + n) by omega, List.drop_length_add_append]

end Go.Proofs.Ytdmhjejjgcfplaa
