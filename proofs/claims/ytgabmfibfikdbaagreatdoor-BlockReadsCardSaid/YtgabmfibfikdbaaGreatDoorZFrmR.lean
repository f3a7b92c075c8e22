/-
  Layer 2: the walks of the document's answer (barographref02): it computes what frame computes.
-/
import Derived.Test.YtgabmfibfikdbaaGreatDoorZLebA
import Derived.Test.YtgabmfibfikdbaaGreatDoorZBokC
import Derived.Test.YtgabmfibfikdbaaGreatDoorZBokJ
import Derived.Test.YtgabmfibfikdbaaGreatDoorZLabU

namespace Go.Proofs.YtgabmfibfikdbaaGreatDoor
open Go.RowKit Go.Bar Go.Bar.Leb Go.Bar.Frm

theorem ref_yes {D y : Nat} (hD : D < 4294967296) (h : (((D : Int) + (y : Int)) % 2 == 1) = true) : bits .xor .u32 ((D : Int) / 2) 2197175160 = ((bstep D y : Nat) : Int) := by
  rw [beq_iff_eq] at h
  unfold bstep
  rw [if_pos (by omega)]
  have := u32_xor_nat (D / 2) 2197175160 (by omega) (by omega)
  rw [← this]
  rfl
theorem ref_no {D y : Nat} (h : (((D : Int) + (y : Int)) % 2 == 1) = false) : (D : Int) / 2 = ((bstep D y : Nat) : Int) := by
  rw [beq_eq_false_iff_ne] at h
  unfold bstep
  rw [if_neg (by omega)]
  rfl

set_option maxHeartbeats 1000000 in
set_option maxRecDepth 10000 in
theorem refSum_any (s : ByteArray) (w : World) (hs : s.size ≤ 1000000000000) :
    Calls Tryz.prog 66 #[.string s] w (RetBelow w (.int .u32 (sum s.data.toList))) := by
  go_enter Tryz.func66, Tryz.ntmps66
  go_wp2_with ((with_reducible refine wpList_bytes rfl (.tmp 8) 96 9 rfl bytes_ty Tryz.underlying9 s rfl (by unfold maxLen; omega) ?_); intro v w1 hb hbl hown; obtain ⟨A, c, rfl, hle⟩ := Buf.shape hb; clear hown)
  go_loop [3, 11] (fun c i => ∃ k C : Nat, k ≤ s.data.toList.length ∧ i = .int .i64 k ∧ C < 4294967296 ∧ c = .int .u32 C ∧ Hid (C = crc (no 0) (s.data.toList.take k))) (fun _ i => s.data.toList.length - (intOf i).toNat)
  case atStart => exact ⟨0, 4294967295, Nat.zero_le _, rfl, by omega, rfl, rfl⟩
  case round =>
    obtain ⟨k, C, hk, rfl, hC, rfl, HC⟩ := hrel
    by_cases hlt : k < s.data.toList.length
    · obtain ⟨b, o, rfl, hbw, hc⟩ := Buf.cell hb (by omega)
      obtain ⟨x, hx⟩ : ∃ x, s.data.toList[k]? = some x := ⟨_, List.getElem?_eq_getElem hlt⟩
      have hck : w1.cell? ⟨b, o + k, none⟩ = some (.int .u8 x.toNat) := by rw [hc k (by omega)]; simp only [bcs, List.getElem?_map, hx]; rfl
      have hx2 := UInt8.toNat_lt x
      have HX := Lib.hid hx
      clear hc hx
      go_wp2
      go_loop [3, 5, 6] (fun c b i => ∃ j D y : Nat, j ≤ 8 ∧ i = .int .i64 j ∧ D < 4294967296 ∧ y < 256 ∧ c = .int .u32 D ∧ b = .int .u8 y ∧ Hid (D = bsteps j C x.toNat ∧ y = x.toNat / 2 ^ j)) (fun _ _ i => 8 - (intOf i).toNat)
      case atStart => exact ⟨0, C, x.toNat, by omega, rfl, hC, hx2, rfl, rfl, rfl, by simp⟩
      case round =>
        obtain ⟨j, D, y, hj, rfl, hD, hy, rfl, rfl, HD⟩ := hrel
        by_cases hj8 : j < 8
        · go_wp2
          all_goals
            go_round
            case rel => exact ⟨j + 1, bstep D y, y / 2, by omega, by go_num, bstep_lt hD, by omega, by first | rw [ref_yes hD (by assumption)] | rw [ref_no (by assumption)], rfl, by rw [HD.out.1, HD.out.2]; rfl, by rw [HD.out.2, Nat.div_div_eq_div_mul, Nat.pow_succ]⟩
            case measure => simp [intOf]; omega
        · obtain rfl : j = 8 := by omega
          go_wp2
          go_round
          case rel => exact ⟨k + 1, D, by omega, by go_num, hD, rfl, by
            obtain ⟨h1, h2⟩ := List.getElem?_eq_some_iff.1 HX.out
            show D = _
            rw [HD.out.1, HC.out, List.take_succ_eq_append_getElem h1, crc_snoc, h2]⟩
          case measure => simp [intOf]; omega
    · go_wp2
      go_ret
      refine ⟨?_, hbl⟩
      rw [List.take_of_length_le (by omega)] at HC
      have := crc_lt s.data.toList (no_lt 0)
      have e : (4294967295 - (C : Int)) = ((sum s.data.toList : Nat) : Int) := by
        rw [HC.out]; unfold sum more
        show _ = ((4294967295 - crc (no 0) s.data.toList : Nat) : Int)
        omega
      rw [← e]
      rfl

theorem sum4_next (S j : Nat) (h : j < 4) : (sum4 S).take (j + 1) = (sum4 S).take j ++ [UInt8.ofNat (S / 256 ^ j)] := by
  rcases j with _ | _ | _ | _ | j <;> first | (exfalso; omega) | simp [sum4]

set_option maxHeartbeats 1000000 in
set_option maxRecDepth 10000 in
theorem refBytes_any (k : UInt8) (d : List UInt8) (W : World) (hd : d.length ≤ 100000000000) :
    Calls Tryz.prog 53 #[.agg #[.int .u8 k.toNat, .string (bs d)]] W (RetBelow W (.string (bs (rec (k, d))))) := by
  have hc1 := conv_one bytes_ty 9 Tryz.underlying9 (W.alloc (.cells #[.int .u8 k.toNat, .string (bs d)] 108)) (k.toNat : Int) k rfl
  rw [show (W.alloc (.cells #[.int .u8 k.toNat, .string (bs d)] 108)).heap.size = W.heap.size + 1 by simp] at hc1
  have hul := u_len d.length (by omega)
  go_enter Tryz.func53, Tryz.ntmps53
  go_wp2_with fail
  refine (refSum_any (bs (k :: d)) _ (by rw [bs_size]; simp; omega)).mono ?_
  rintro e w1 ⟨rfl, hb1⟩
  have c1 : w1.cell? ⟨W.heap.size, 1, none⟩ = some (.string (bs d)) := by rw [hb1.cell (by simp; omega)]; simp
  have hbl : Below (W.alloc (.cells #[.int .u8 k.toNat, .string (bs d)] 108)).heap.size (W.alloc (.cells #[.int .u8 k.toNat, .string (bs d)] 108)) w1 := ((Below.refl _ _).alloc (Nat.le_refl _) _).trans (hb1.mono (by simp))
  clear hb1 hc1
  go_wp2_with fail
  refine (refUint_any d.length _ (by omega)).mono ?_
  rintro e w2 ⟨rfl, hb2⟩
  have hbl := below_trans hbl hb2
  clear hb2 c1
  have hS := sum_lt (k :: d)
  rw [bs_data]
  obtain ⟨S, hSe⟩ : ∃ S, S = sum (k :: d) := ⟨_, rfl⟩
  rw [← hSe] at hS ⊢
  have HS := Lib.hid hSe
  clear hSe
  go_wp2_with fail
  go_loopw [4, 5, 6] (fun m s i wr => ∃ (j M : Nat), j ≤ 4 ∧ i = .int .i64 j ∧ M < 4294967296 ∧ m = .int .u32 M ∧ s = .string (bs (k :: (u d.length ++ (sum4 S).take j))) ∧ Hid (M = S / 256 ^ j) ∧ Below (W.alloc (.cells #[.int .u8 k.toNat, .string (bs d)] 108)).heap.size (W.alloc (.cells #[.int .u8 k.toNat, .string (bs d)] 108)) wr)
    (fun _ _ i _ => 4 - (intOf i).toNat)
  case atStart => exact ⟨0, S, by omega, rfl, hS, rfl, by simp, (by simp : S = S / 256 ^ 0), hbl⟩
  case round =>
    obtain ⟨j, M, hj, rfl, hM, rfl, rfl, HM, hbr⟩ := hrel
    clear hbl
    have c1 : wr.cell? ⟨W.heap.size, 1, none⟩ = some (.string (bs d)) := by rw [hbr.cell (by simp)]; simp
    by_cases hj4 : j < 4
    · have hc1 := fun w => conv_one bytes_ty 9 Tryz.underlying9 w ((M : Int) % 256) (UInt8.ofNat M) (by simp)
      go_wp2_with fail
      go_roundw
      case rel => exact ⟨j + 1, M / 256, by omega, by go_num, by omega, rfl, by rw [sum4_next S j hj4, HM.out], (by rw [HM.out, Nat.div_div_eq_div_mul, Nat.pow_succ] : M / 256 = S / 256 ^ (j + 1)), hbr.alloc hbr.size _⟩
      case measure => simp [intOf]; omega
    · obtain rfl : j = 4 := by omega
      go_wp2_with fail
      go_ret
      refine ⟨?_, ((Below.refl _ _).alloc (Nat.le_refl _) _).trans (hbr.mono (by simp))⟩
      have e : bs (k :: (u d.length ++ (sum4 S ++ d))) = bs (rec (k, d)) := by simp [rec, rsum, HS.out]
      rw [← e]
      rfl

theorem refNext_bytes (k : UInt8) (l : List UInt8) (n : Nat) (r : List UInt8) (h : takeMost l 1048576 = (n, r, 0)) (h2 : 4 + n ≤ r.length) :
    rec (k, (r.drop 4).take n) = (k :: l).take (rec (k, (r.drop 4).take n)).length ↔ rsum (k, (r.drop 4).take n) = num4 r := by
  have ho := takeMost_one l 1048576 (by rw [h])
  rw [h] at ho
  simp only at ho
  have hd : ((r.drop 4).take n).length = n := by rw [List.length_take, List.length_drop]; omega
  have hl : rec (k, (r.drop 4).take n) = k :: (u n ++ (sum4 (rsum (k, (r.drop 4).take n)) ++ (r.drop 4).take n)) := by simp [rec, hd]
  have hll : (rec (k, (r.drop 4).take n)).length = (u n).length + 4 + n + 1 := by rw [rec_len, hd]; omega
  have e : (k :: l).take ((u n).length + 4 + n + 1) = k :: (u n ++ (r.take 4 ++ (r.drop 4).take n)) := by
    rw [List.take_succ_cons, ← ho, show (u n).length + 4 + n = (u n).length + (4 + n) by omega, List.take_length_add_append, List.take_add]
  rw [hll, e, hl]
  constructor
  · intro he
    have h3 := List.append_cancel_left (List.cons.inj he).2
    have h4 := (List.append_inj h3 (by rw [sum4_len, List.length_take]; omega)).1
    have h5 := congrArg num4 h4
    have h6 := num4_sum4 (rsum (k, (r.drop 4).take n)) (sum_lt _) []
    rw [List.append_nil] at h6
    rw [h6] at h5
    rw [h5]
    match r, h2 with
    | a :: b :: c :: f :: r', _ => rfl
    | [], h | [_], h | [_, _], h | [_, _, _], h => simp at h <;> omega
  · intro he
    rw [he, sum4_num4 r (by omega)]
theorem refNext_len (k : UInt8) (l : List UInt8) (n : Nat) (r : List UInt8) (h : takeMost l 1048576 = (n, r, 0)) (h2 : 4 + n ≤ r.length) :
    (rec (k, (r.drop 4).take n)).length ≤ l.length + 1 ∧ (k :: l).drop (rec (k, (r.drop 4).take n)).length = r.drop (4 + n) := by
  have ho := takeMost_one l 1048576 (by rw [h])
  rw [h] at ho
  simp only at ho
  have hd : ((r.drop 4).take n).length = n := by rw [List.length_take, List.length_drop]; omega
  have hll : (rec (k, (r.drop 4).take n)).length = (u n).length + 4 + n + 1 := by rw [rec_len, hd]; omega
  have := congrArg List.length ho
  rw [List.length_append] at this
  refine ⟨by rw [hll]; omega, ?_⟩
  rw [hll, List.drop_succ_cons, ← ho, show (u n).length + 4 + n = (u n).length + (4 + n) by omega, List.drop_length_add_append]

set_option maxHeartbeats 1000000 in
set_option maxRecDepth 10000 in
theorem refNext_any (l : List UInt8) (w : World) (hs : l.length ≤ 1000000000000) :
    Calls Tryz.prog 39 #[.string (bs l)] w (RetBelow w (nextV (next l))) := by
  match l with
  | [] =>
    have he : (bs []).toList.isEmpty = true := bs_isEmpty []
    go_enter Tryz.func39, Tryz.ntmps39
    go_wp2_with fail
    go_returns
    exact ⟨rfl, (Below.refl _ _).alloc (Nat.le_refl _) _⟩
  | k :: l =>
    rw [List.length_cons] at hs
    obtain ⟨n, r, er, ht⟩ : ∃ n r er, takeMost l 1048576 = (n, r, er) := ⟨_, _, _, rfl⟩
    have hp := takeMost_prop l 1048576 (by omega)
    have hn1 : (takeMost l 1048576).2.2 = 0 → (takeMost l 1048576).1 ≤ 1048576 := takeMost_le l 1048576
    have hq1 := refNext_bytes k l n r
    have hq2 := refNext_len k l n r
    rw [next, ht]
    rw [ht] at hp hn1
    simp only at hp hn1 ⊢
    obtain ⟨hv, hrl, he⟩ := hp
    have hT : ∀ w, Calls Tryz.prog 40 #[.string ((bs (k :: l)).extract 1 (l.length + 1)), .int .i64 1048576] w (Quiet w (.tuple #[.int .i64 n, .string (bs r), .int .i64 er])) := fun w => by
      have e : (bs (k :: l)).extract 1 (l.length + 1) = bs l := by rw [bs_extract]; simp
      rw [e]
      exact refTakeMost_of (bs l) 1048576 ht w (by rw [bs_size]; unfold maxLen; omega) (by omega) (by omega)
    have HT := Lib.hid hT
    have h0 : (bs (k :: l)).toList.isEmpty = false := bs_isEmpty _
    have hsz : (bs (k :: l)).size = l.length + 1 := rfl
    clear hT
    by_cases h1 : er ≠ 0
    · rw [if_pos h1]
      have hb : ((er : Int) != 0) = true := by rw [bne_iff_ne]; omega
      clear h1 he hn1 ht hq1 hq2
      go_enter Tryz.func39, Tryz.ntmps39
      go_wp2_with fail
      refine (HT.out _).mono ?_
      rintro e w' ⟨rfl, n2, rfl⟩
      go_wp2_with fail
      go_returns
      exact ⟨rfl, ((below_drewN ((Below.refl _ _).alloc (Nat.le_refl _) _) _).setCell (by simp) _).setCell (by simp) _⟩
    · rw [if_neg h1]
      obtain rfl : er = 0 := by omega
      have hn2 := hn1 rfl
      clear h1 he hn1
      by_cases h2 : r.length < 4 + n
      · rw [if_pos h2]
        clear ht hq1 hq2
        go_enter Tryz.func39, Tryz.ntmps39
        go_wp2_with fail
        refine (HT.out _).mono ?_
        rintro e w' ⟨rfl, n2, rfl⟩
        go_wp2_with fail
        go_returns
        exact ⟨rfl, ((below_drewN ((Below.refl _ _).alloc (Nat.le_refl _) _) _).setCell (by simp) _).setCell (by simp) _⟩
      · rw [if_neg h2]
        have hq1 := hq1 ht (by omega)
        obtain ⟨hq2, hq3⟩ := hq2 ht (by omega)
        have h4 : 4 + n ≤ r.length := by omega
        obtain ⟨d, hd⟩ : ∃ d, d = (r.drop 4).take n := ⟨_, rfl⟩
        rw [← hd] at hq1 hq2 hq3 ⊢
        have hdl : d.length ≤ 1048576 := by rw [hd]; exact Nat.le_trans (List.length_take_le _ _) hn2
        have hx2 : (bs r).extract 4 (4 + n) = bs d := by rw [bs_extract, hd, Nat.add_sub_cancel_left]
        have hi0 := index_bs Tryz.underlying9 .i64 (k :: l) 0 0 k rfl rfl
        have hB : ∀ w, Calls Tryz.prog 53 #[.agg #[.int .u8 k.toNat, .string ((bs r).extract 4 (4 + n))]] w (RetBelow w (.string (bs (rec (k, d))))) := fun w => by
          rw [hx2]; exact refBytes_any k d w (by omega)
        have HB := Lib.hid hB
        have hw4 : IntKind.i64.wrap (4 + (n : Int)) = 4 + (n : Int) := IntWalk.i64_in _ ⟨by omega, by omega⟩
        have hp4 : (0 : Int) ≤ 4 + (n : Int) := by omega
        have hp5 : 4 + (n : Int) ≤ r.length := by omega
        have HX := Lib.hid hx2
        have HQ := Lib.hid hq1
        have HQ3 := Lib.hid hq3
        have hxa : (bs (k :: l)).extract 0 (rec (k, d)).length = bs ((k :: l).take (rec (k, d)).length) := by rw [bs_extract, List.drop_zero, Nat.sub_zero]
        have HXA := Lib.hid hxa
        clear h2 hd hB ht hx2 hq1 hq3 hxa
        have step : ∀ (bb : Bool) (v : Value), Hid (decide (rec (k, d) = (k :: l).take (rec (k, d)).length) = bb) →
            Hid ((bb = false → v = nextV (z, [], 4)) ∧ (bb = true → v = nextV ((k, d), r.drop (4 + n), 0))) → Calls Tryz.prog 39 #[.string (bs (k :: l))] w (RetBelow w v) := by
          intro bb v hbb hv
          go_enter Tryz.func39, Tryz.ntmps39
          go_wp2_with fail
          refine (HT.out _).mono ?_
          rintro e w' ⟨rfl, n2, rfl⟩
          go_wp2_with fail
          go_region
          all_goals go_wp2_with fail
          all_goals
            refine (HB.out _).mono ?_
            rintro e w1 ⟨rfl, hb1⟩
            have a0 : w1.cell? ⟨w.heap.size, 0, none⟩ = some (.int .u8 0) := by rw [hb1.cell (by simp; omega)]; simp [go_sem]
            have a1 : w1.cell? ⟨w.heap.size, 1, none⟩ = some (.string { data := #[] }) := by rw [hb1.cell (by simp; omega)]; simp [go_sem]
            have a2 : w1.cell? ⟨w.heap.size + 1, 0, none⟩ = some (.int .u8 k.toNat) := by rw [hb1.cell (by simp)]; simp [go_sem]
            have a3 : w1.cell? ⟨w.heap.size + 1, 1, none⟩ = some (.string ((bs r).extract 4 (4 + n))) := by rw [hb1.cell (by simp)]; simp [go_sem]
            have f0 : w1.frozen? ⟨w.heap.size, 0, none⟩ = false := by rw [hb1.frozen (by simp; omega)]; simp [go_sem]
            have f1 : w1.frozen? ⟨w.heap.size, 1, none⟩ = false := by rw [hb1.frozen (by simp; omega)]; simp [go_sem]
            have hz1 : w.heap.size + 1 < w1.heap.size := by have := hb1.size; simp at this; omega
            have hcmp : (rec (k, d) == ((bs (k :: l)).extract 0 (rec (k, d)).length).toList) = bb := by
              rw [HXA.out, bs_toList, ← hbb.out]; rw [Bool.eq_iff_iff]; simp
            obtain ⟨r0, r1⟩ := set2 a0 a1
            clear hi0
            rcases bb with _ | _
            · obtain rfl : v = nextV (z, [], 4) := by simpa using hv.out.1
              clear hv hbb
              go_wp2_with fail
              refine bodyPost_ret (v := .tuple #[.agg #[.int .u8 0, .string { data := #[] }], .string { data := #[] }, .int .i64 4]) (by simp [results, Tryz.results39, go_sem, r0, r1]) rfl ⟨rfl, ?_⟩
              exact ((((below_drewN ((Below.refl _ _).alloc (Nat.le_refl _) _) _).alloc (by simp) _).trans (hb1.mono (by simp; omega))).setCell (by simp) _).setCell (by simp) _
            · obtain rfl : v = nextV ((k, d), r.drop (4 + n), 0) := by simpa using hv.out.2
              clear hv hbb
              go_wp2_with fail
              go_region
              all_goals go_wp2_with fail
              all_goals
                refine bodyPost_ret (v := .tuple #[.agg #[.int .u8 k.toNat, .string ((bs r).extract 4 (4 + n))], .string ((bs (k :: l)).extract (rec (k, d)).length (l.length + 1)), .int .i64 0]) (by simp [results, Tryz.results39, go_sem, r0, r1]) rfl ⟨?_, ?_⟩
                · have e : (bs (k :: l)).extract (rec (k, d)).length (l.length + 1) = bs (r.drop (4 + n)) := by
                    rw [bs_extract, ← HQ3.out, List.take_of_length_le (by rw [List.length_drop]; simp)]
                  rw [e, HX.out]
                  rfl
                · exact (((((below_drewN ((Below.refl _ _).alloc (Nat.le_refl _) _) _).alloc (by simp) _).trans (hb1.mono (by simp; omega))).setCell (by simp) _).setCell (by simp) _).drew
        by_cases h3 : rsum (k, d) = num4 r
        · rw [if_neg (fun h => h h3)]
          exact step true _ (decide_eq_true (HQ.out.2 h3)) ⟨fun h => (by cases h), fun _ => rfl⟩
        · rw [if_pos h3]
          exact step false _ (decide_eq_false (fun h => h3 (HQ.out.1 h))) ⟨fun _ => rfl, fun h => (by cases h)⟩

theorem refNext_of {l r d : List UInt8} {k : UInt8} {er : Nat} (h : next l = ((k, d), r, er)) (w : World) (hs : l.length ≤ 1000000000000) :
    Calls Tryz.prog 39 #[.string (bs l)] w (RetBelow w (.tuple #[.agg #[.int .u8 k.toNat, .string (bs d)], .string (bs r), .int .i64 er])) := by
  have := refNext_any l w hs
  rw [h] at this
  exact this

theorem rrec_ty : ElemTy Tryz.prog 121 108 (.agg #[.int .u8 0, .string ByteArray.empty]) 2 24 :=
  ⟨Tryz.underlying121, info_parts (show (Tryz.prog.info? 108).map (fun i => (i.zero, i.size, i.bytes)) = some (some (.agg #[.int .u8 0, .string ByteArray.empty]), 2, 24) by kernel_rfl), rfl⟩

set_option maxHeartbeats 1000000 in
set_option maxRecDepth 10000 in
theorem refAll_any (l : List UInt8) (w : World) (hs : l.length ≤ 1000000000) :
    Calls Tryz.prog 45 #[.string (bs l)] w (RetAll w 108 (recs l) ((l.length : Int) - ((left l).length : Nat))) := by
  have hll := left_le l
  go_enter Tryz.func45, Tryz.ntmps45
  go_wp2_with fail
  go_loopw [4, 5, 6] (fun v s i wr => ∃ (rs : List Rc) (m : List UInt8) (k : Nat), i = .int .i64 k ∧ s = .string (bs m) ∧ rs.length * 6 + m.length ≤ l.length ∧ k ≤ rs.length ∧ App (w.alloc (.cells #[] 108)) (.slice (some ⟨w.heap.size, 0, none⟩) 0 0) 108 2 0 [] wr v rs.length (frcs rs) ∧ Hid (rs ++ recs m = recs l ∧ left m = left l))
    (fun _ s _ _ => lenOf s)
  case atStart => exact ⟨[], l, 0, rfl, rfl, by simp, Nat.le_refl _, App.lit0 w _ _, rfl, rfl⟩
  case round =>
    obtain ⟨rs, m, j, rfl, rfl, hlen, hj, happ, hr⟩ := hrel
    obtain ⟨k, d, r, er, hn⟩ : ∃ k d r er, next m = ((k, d), r, er) := ⟨_, _, _, _, rfl⟩
    have HN := Lib.hid hn
    have hjl : j ≤ l.length := by omega
    by_cases he : er = 0
    · subst he
      have h6 := next_left m (by rw [hn])
      have hg := recs_go (l := m) (by rw [hn])
      rw [hn] at h6 hg
      simp only at h6 hg
      have HG := Lib.hid hg
      clear hg hn
      go_wp2_with fail
      refine (refNext_of HN.out _ (by omega)).mono ?_
      rintro e w1 ⟨rfl, hb1⟩
      have happ1 := happ.below hb1
      clear happ hb1
      go_wp2_with (at_builtin; refine wpList_append_lit rfl (.tmp 26) (.tmp 28) 121 rfl rrec_ty rfl (happ1.alloc _) rfl (by simp) rfl (by simp [Value.oneCell']) (by simp only [maxLen]; omega) (by omega) ?_; intro v2 w2 happ2)
      go_roundw
      case rel => exact ⟨rs ++ [(k, d)], r, j + 1, by go_num, rfl, by simp; omega, by simp; omega, by rw [frcs_snoc, List.length_append]; exact happ2, by rw [← hr.out.1, HG.out.1]; simp, by rw [← hr.out.2, HG.out.2]⟩
      case measure => simp only [lenOf, bs_size]; omega
    · have hg := recs_stop (l := m) (by rw [hn]; exact he)
      have hb : ((er : Int) != 0) = true := by rw [bne_iff_ne]; omega
      have HG := Lib.hid hg
      clear hg hn he
      go_wp2_with fail
      refine (refNext_of HN.out _ (by omega)).mono ?_
      rintro e w1 ⟨rfl, hb1⟩
      have happ1 := happ.below hb1
      clear happ hb1
      go_wp2_with fail
      go_ret2
      have e1 : rs = recs l := by rw [← hr.out.1, HG.out.1, List.append_nil]
      have e2 : m = left l := by rw [← hr.out.2, HG.out.2]
      have happ2 := happ1.alloc (.cells #[.int .u8 k.toNat, .string (bs d)] 108)
      have hbuf := happ2.buf
      rw [Nat.zero_add, List.nil_append] at hbuf
      have hbl := happ2.below_lit0
      subst e1
      exact ⟨_, by rw [← e2]; rfl, hbuf, hbl⟩

end Go.Proofs.YtgabmfibfikdbaaGreatDoor

/-
  Layer 16: the walk of the reference's Entries.
-/
namespace Go.Proofs.YtgabmfibfikdbaaGreatDoor
open Go.RowKit Go.Bar Go.Bar.Leb Go.Bar.Frm Go.Bar.Lab Go.Bar.Xor Go.Bar.Mrg Go.Bar.Met Go.Bar.Bok

set_option maxHeartbeats 16000000 in
set_option maxRecDepth 10000 in
theorem rentries_any (s : List UInt8) (w : World) (hs : s.length ≤ 1000000000) :
    Calls Tryz.prog 11 #[.string (bs s)] w (RetEs 114 146 w (entriesR s)) := by
  obtain ⟨kd, d, r, er, hn⟩ : ∃ k d r e, Frm.next s = ((k, d), r, e) := ⟨_, _, _, _, rfl⟩
  have hc : ∀ w, Calls Tryz.prog 39 #[.string (bs s)] w (RetBelow w (.tuple #[.agg #[.int .u8 kd.toNat, .string (bs d)], .string (bs r), .int .i64 er])) := fun w => by
    have := refNext_any s w (by omega)
    rw [hn] at this
    exact this
  have ho : only s 5 = (d, if er = 0 ∧ (r ≠ [] ∨ kd ≠ 5) then 3 else er) := by
    unfold only
    rw [hn]
  have hdl : er = 0 → d.length ≤ 1048576 := fun he => by
    have := (next_one s (by rw [hn]; exact he)).2
    rw [hn] at this
    exact this
  obtain ⟨R, hR⟩ : ∃ R, R = entriesR s := ⟨_, rfl⟩
  rw [← hR]
  have HC := Lib.hid hc
  have HR := Lib.hid hR
  have HO := Lib.hid ho
  clear hc hn hR ho
  by_cases h0 : er = 0
  · subst h0
    have hdl := hdl rfl
    by_cases h1 : r = []
    · subst h1
      by_cases h2 : kd = 5
      · subst h2
        have hes : R = ensD d := by
          rw [HR.out]
          exact entriesR_ok' (by rw [HO.out]; simp)
        obtain ⟨n0, r0, e0, htm⟩ : ∃ n r e, takeMost d 10000 = (n, r, e) := ⟨_, _, _, rfl⟩
        have htc := fun w => refTakeMost_of (bs d) 10000 htm w (by rw [bs_size]; unfold maxLen; omega) (by omega) (by omega)
        have hle := (takeMost_prop d 10000 (by omega)).2.1
        rw [htm] at hle
        have hn0 : e0 = 0 → n0 ≤ 10000 := fun he => by
          have := takeMost_le d 10000 (by rw [show ((10000 : Nat) : Int) = 10000 from rfl, htm]; exact he)
          rw [show ((10000 : Nat) : Int) = 10000 from rfl, htm] at this
          exact this
        have HES := Lib.hid hes
        have HTM := Lib.hid htm
        have HTC := Lib.hid htc
        dsimp only at hle
        clear hes htm htc HO HR
        go_enter Tryz.func11, Tryz.ntmps11
        go_wp2_with fail
        refine (HC.out _).mono ?_
        rintro e w1 ⟨rfl, hb1⟩
        have HB1 := Lib.hid (below_trans hb1 (below_al w1 (.cells #[.int .u8 ((5 : UInt8).toNat : Nat), .string (bs d)] 108)))
        clear hb1 HC
        go_wp2_with fail
        refine (HTC.out _).mono ?_
        rintro e w2 ⟨rfl, q2, rfl⟩
        have HB2 := Lib.hid (below_trans HB1.out (below_draws _ q2))
        clear HB1 HTC
        by_cases he0 : e0 = 0
        rotate_left 1
        · have hez : ((e0 : Int) == 0) = false := by rw [beq_eq_false_iff_ne]; omega
          have hRX : R = ([], e0) := by rw [HES.out]; exact ensD_bad HTM.out he0
          have HRES := Lib.hid hRX
          clear hRX hn0 HTM HES he0
          go_wp2_with fail
          go_ret2
          rw [HRES.out]
          exact RetEs.no HB2.out
        · subst he0
          have hn0 := hn0 rfl
          have hens : ∀ (l : List En) (r' : List UInt8) (e : Nat), tEns n0 r0 [] = (l, r', e) → R = if e ≠ 0 then ([], e) else if r' ≠ [] then ([], 3) else (l, 0) := fun l r' e ht => by
            rw [HES.out]
            exact ensD_of HTM.out ht
          have HENS := Lib.hid hens
          clear hens HES HTM
          have hd0 : DEs w w w (((w1.alloc (.cells #[.int .u8 ((5 : UInt8).toNat : Nat), .string (bs d)] 108)).drewN q2).alloc (.cells #[] 114)) 114 146 (.slice (some ⟨w1.heap.size + 1, 0, none⟩) 0 0) [] := by
            have e : ((w1.alloc (.cells #[.int .u8 ((5 : UInt8).toNat : Nat), .string (bs d)] 108)).drewN q2).heap.size = w1.heap.size + 1 := by simp
            have := NBuf.lit0 HB2.out 114 5
            rw [e] at this
            exact ⟨this, Below.refl _ _, fun x hx => by cases hx⟩
          have HD0 := Lib.hid hd0
          have hr0l : r0.length ≤ 1000000000 := by omega
          clear hd0
          go_upto_region 11 with fail
          go_loopw [11, 8, 10] (fun iv dv ov wr => ∃ (k : Nat) (r' : List UInt8) (l : List Ev), iv = .int .i64 k ∧ k ≤ n0 ∧ Hid (l.length = k) ∧ dv = .string (bs r') ∧ Hid (DEs w w w wr 114 146 ov l) ∧ r'.length ≤ 1000000000 ∧
            Hid (tEns n0 r0 [] = tEns (n0 - k) r' (l.map plE))) (fun iv _ _ _ => n0 - (intOf iv).toNat)
          case atStart => exact ⟨0, r0, [], rfl, Nat.zero_le _, Lib.hid rfl, rfl, HD0, hr0l, Lib.hid rfl⟩
          case round =>
            obtain ⟨k, r', l, rfl, hk, HLK, rfl, HD, hrl, HT⟩ := hrel
            clear HD0
            have hbw := HD.out.n.below
            have HBW := Lib.hid hbw
            obtain ⟨oA, oc, rfl, hoc⟩ := HD.out.n.buf.shape
            by_cases hgo : k < n0
            rotate_left 1
            · obtain rfl : k = n0 := by omega
              have hR := HENS.out (l.map plE) r' 0 (by rw [HT.out, Nat.sub_self]; rfl)
              by_cases hr : r' = []
              · subst hr
                rw [if_neg (by omega), if_neg (by simp)] at hR
                have HRES := Lib.hid hR
                clear hR HT hbw
                go_wp2_with fail
                go_ret2
                rw [HRES.out]
                exact ⟨_, l, rfl, HD.out, rfl⟩
              · rw [if_neg (by omega), if_pos hr] at hR
                have hb : r'.isEmpty = false := by cases r'; exact absurd rfl hr; rfl
                have hb2 : (r' != []) = true := by rw [bne_iff_ne]; exact hr
                have HRES := Lib.hid hR
                clear hR HT hbw hr HD
                go_wp2_with fail
                go_ret2
                rw [HRES.out]
                exact RetEs.no HBW.out
            · obtain ⟨m, hm⟩ : ∃ m, n0 - k = m + 1 := ⟨n0 - k - 1, by omega⟩
              have hte0 := HT.out
              rw [hm] at hte0
              have htk := fun w' => rentry_any r' w' (by omega)
              obtain ⟨y, r2, e3, hte⟩ : ∃ y r e, tEn r' = (y, r, e) := ⟨_, _, _, rfl⟩
              have hle2 := tEn_le r'
              rw [hte] at hle2 htk
              dsimp only at hle2
              have htn : tEns (m + 1) r' (l.map plE) = if e3 ≠ 0 then ([], [], e3) else if Bok.early (l.map plE) y then ([], [], 3) else tEns m r2 (l.map plE ++ [y]) := by rw [tEns, hte]
              rw [← hte0] at htn
              have HTN := Lib.hid htn
              have HTK := Lib.hid htk
              have HM := Lib.hid (show n0 - (k + 1) = m by omega)
              clear hte htk htn hbw hte0 hm HT
              go_wp2_with fail
              refine (HTK.out _).mono ?_
              rintro e w3 ⟨x, rfl, hxy, hnx⟩
              dsimp only at hxy ⊢
              have hb3 := hnx.below
              have HD3 := Lib.hid (HD.out.below hb3)
              have HB3 := Lib.hid (below_trans HBW.out hb3)
              have HN3 := Lib.hid (hnx.after HBW.out)
              have HXY := Lib.hid hxy
              clear hnx hxy HTK hb3 HD
              by_cases he3 : e3 = 0
              rotate_left 1
              · have hez : ((e3 : Int) == 0) = false := by rw [beq_eq_false_iff_ne]; omega
                have hR := HENS.out [] [] e3 (by rw [HTN.out, if_pos he3])
                rw [if_pos he3] at hR
                have HRES := Lib.hid hR
                have HBX := Lib.hid (below_trans HB3.out (below_al w3 (.cells #[.slice x.la x.ls.length x.lc, .int .i64 x.fr, .int .i64 x.n, .int .i64 x.mn, .int .i64 x.mx] 114)))
                clear hR he3 HTN
                go_wp2_with fail
                go_ret2
                rw [HRES.out]
                exact RetEs.no HBX.out
              · subst he3
                have hlit := below_al w3 (.cells #[.slice x.la x.ls.length x.lc, .int .i64 x.fr, .int .i64 x.n, .int .i64 x.mn, .int .i64 x.mx] 114)
                have HX4 := Lib.hid (Blk.new w3 #[.slice x.la x.ls.length x.lc, .int .i64 x.fr, .int .i64 x.n, .int .i64 x.mn, .int .i64 x.mx] 114)
                have HD4 := Lib.hid (HD3.out.below hlit)
                have HN4 := Lib.hid (HN3.out.then_below hlit)
                have HB4 := Lib.hid (below_trans HB3.out hlit)
                clear hlit HD3 HN3 HB3
                go_upto_region 16 with fail
                obtain ⟨X, hX⟩ : ∃ X, X = w3.heap.size := ⟨_, rfl⟩
                obtain ⟨w4, hw4⟩ : ∃ w4, w4 = w3.alloc (.cells #[.slice x.la x.ls.length x.lc, .int .i64 x.fr, .int .i64 x.n, .int .i64 x.mn, .int .i64 x.mx] 114) := ⟨_, rfl⟩
                rw [← hX, ← hw4] at HX4
                rw [← hw4] at HD4 HN4 HB4
                rw [← hX, ← hw4]
                clear hX hw4
                have hln : l.length ≤ 10000 := by rw [HLK.out]; omega
                rcases Nat.eq_zero_or_pos k with hk0 | hk0
                · subst hk0
                  have hl0 : l = [] := List.eq_nil_of_length_eq_zero HLK.out
                  subst hl0
                  have HNE := Lib.hid (show ¬ Bok.early (([] : List Ev).map plE) y from early_nil y)
                  rw [List.length_nil] at hoc ⊢
                  refine wp_region_known [] (by kernel_rfl) 78 (by kernel_rfl) rfl ?_
                  repeat (first
                    | (refine Chain.step (v := ?_) (a' := ?_) rfl rfl rfl ?_ ?_ ?_; rotate_left 2; (focus (intro w; go_simp; try with_reducible rfl)); focus (simp only [Act.put, pqA, pqS, pqZ]; try rfl))
                    | (refine Chain.skip (a' := ?_) rfl rfl rfl ?_ ?_; rotate_left 1; focus (simp only [Act.put, pqA, pqS, pqZ]; try rfl)))
                  refine Chain.end_ (fun wz hwz _ => ?_)
                  have HDD := Lib.hid (HD4.out.below hwz)
                  have HNN := Lib.hid (HN4.out.then_below hwz)
                  obtain ⟨x0, x1, x2, x3, x4⟩ := (HX4.out.below hwz).c5
                  have hnb := HDD.out.n
                  go_wp2_with (at_builtin; refine wpList_append_nlit rfl (.tmp 70) (.tmp 72) 29 rfl rentry_ty rfl hnb rfl (by simp) rfl (by simp [Value.oneCell']) (by simp only [maxLen]; omega) (by omega) ?_; intro v6 w6 hn6 ha6; have HAP := Lib.hid ha6; clear ha6)
                  have HD6 := Lib.hid ((HDD.out.below (below_al _ (.cells #[.slice x.la x.ls.length x.lc, .int .i64 x.fr, .int .i64 x.n, .int .i64 x.mn, .int .i64 x.mx] 114))).snoc (x := x) (DeepE.below (.inr HNN.out) (below_al _ (.cells #[.slice x.la x.ls.length x.lc, .int .i64 x.fr, .int .i64 x.n, .int .i64 x.mn, .int .i64 x.mx] 114))) hn6 HAP.out (by decide))
                  clear hn6 HAP hnb
                  go_roundw
                  case rel => exact ⟨0 + 1, r2, [] ++ [x], by go_num, hgo, Lib.hid rfl, rfl, HD6, by omega, Lib.hid (by rw [HTN.out, HM.out, if_neg (by omega), if_neg HNE.out, List.map_append, ← HXY.out]; rfl)⟩
                  case measure => simp [intOf]; omega
                · obtain ⟨q, hq⟩ : ∃ q, k = q + 1 := ⟨k - 1, by omega⟩
                  have hlq : l.length = q + 1 := by rw [HLK.out]; exact hq
                  obtain ⟨p, hp⟩ : ∃ p, l[q]? = some p := ⟨_, List.getElem?_eq_getElem (by omega)⟩
                  have hes := HD4.out.at_ (HD4.out.n.below)
                  obtain ⟨bo, oo, hoA, hbo, hps, g0, _, _, _, _⟩ := hes.at_ hp
                  subst hoA
                  have hcm := fun w' (hb : Below w4.heap.size w4 w') => rcompare_any _ _ p.ls x.ls w' (hps.below hb) (HN4.out.slice.below hb)
                  obtain ⟨C, hC⟩ : ∃ C, C = cmpL p.ls x.ls := ⟨_, rfl⟩
                  rw [← hC] at hcm
                  have hea := early_at (y := y) hlq hp
                  rw [← HXY.out, show (plE x).ls = x.ls from rfl, ← hC] at hea
                  have HCM := Lib.hid hcm
                  have HP0 := Lib.hid g0
                  have HEA := Lib.hid hea
                  have hkk : (0 : Int) < (k : Int) := by omega
                  have hk3 : decide ((0 : Int) < (k : Int)) = true := decide_eq_true hkk
                  have hkw : IntKind.i64.wrap ((k : Int) - 1) = (q : Int) := by rw [IntKind.wrap_i64]; omega
                  have hkq : (q : Int) < (l.length : Int) := by omega
                  have hkq0 : (0 : Int) ≤ (q : Int) := by omega
                  have hkq1 : q < l.length := by omega
                  clear hcm g0 hea hC hps hes hp hlq hq
                  rcases Int.lt_or_le C 0 with hC | hC
                  · have HNE := Lib.hid (show ¬ Bok.early (l.map plE) y from fun h => by rw [← HXY.out] at h; have := HEA.out.1 h; omega)
                    refine wp_region_known [(8, .slice p.la p.ls.length p.lc), (10, .slice x.la x.ls.length x.lc), (11, .int .i64 C)] (by kernel_rfl) 78 (by kernel_rfl) rfl ?_
                    repeat (first
                      | (refine Chain.step (v := ?_) (a' := ?_) rfl rfl rfl ?_ ?_ ?_; rotate_left 2; (focus (intro w; go_simp; try with_reducible rfl)); focus (simp only [Act.put, pqA, pqS, pqZ]; try rfl))
                      | (refine Chain.call (i := 8) (a' := ?_) _ rfl rfl rfl (fun wx hw => ?_) ?_ ?_; rotate_left 1; (focus (have g0 := (Below.cell hw (p := ⟨bo, oo + q * 5, none⟩) hbo).trans HP0.out); (go_simp); (first | exact ⟨rfl, rB⟩ | exact rB)); focus (simp only [Act.put, pqA, pqS, pqZ]; try rfl))
                      | (refine Chain.call (i := 10) (a' := ?_) _ rfl rfl rfl (fun wx hw => ?_) ?_ ?_; rotate_left 1; (focus (obtain ⟨g0, g1, g2, g3, g4⟩ := Blk.c5 (HX4.out.below hw); go_simp; first | exact ⟨rfl, rB⟩ | exact rB)); focus (simp only [Act.put, pqA, pqS, pqZ]; try rfl))
                      | (refine Chain.call (i := 11) (a' := ?_) _ rfl rfl rfl (fun wx hw => ?_) ?_ ?_; rotate_left 1; (focus (go_simp; (with_reducible refine (HCM.out _ hw).mono ?_); exact (fun e w' ⟨h1, h2⟩ => by subst h1; exact ⟨rfl, h2⟩))); focus (simp only [Act.put, pqA, pqS, pqZ]; try rfl))
                      | (refine Chain.skip (a' := ?_) rfl rfl rfl ?_ ?_; rotate_left 1; focus (simp only [Act.put, pqA, pqS, pqZ]; try rfl)))
                    refine Chain.end_ (fun wz hwz _ => ?_)
                    have HDD := Lib.hid (HD4.out.below hwz)
                    have HNN := Lib.hid (HN4.out.then_below hwz)
                    obtain ⟨x0, x1, x2, x3, x4⟩ := (HX4.out.below hwz).c5
                    have hnb := HDD.out.n
                    go_wp2_with (at_builtin; refine wpList_append_nlit rfl (.tmp 70) (.tmp 72) 29 rfl rentry_ty rfl hnb rfl (by simp) rfl (by simp [Value.oneCell']) (by simp only [maxLen]; omega) (by omega) ?_; intro v6 w6 hn6 ha6; have HAP := Lib.hid ha6; clear ha6)
                    have HD6 := Lib.hid ((HDD.out.below (below_al _ (.cells #[.slice x.la x.ls.length x.lc, .int .i64 x.fr, .int .i64 x.n, .int .i64 x.mn, .int .i64 x.mx] 114))).snoc (x := x) (DeepE.below (.inr HNN.out) (below_al _ (.cells #[.slice x.la x.ls.length x.lc, .int .i64 x.fr, .int .i64 x.n, .int .i64 x.mn, .int .i64 x.mx] 114))) hn6 HAP.out (by decide))
                    clear hn6 HAP hnb
                    go_roundw
                    case rel => exact ⟨k + 1, r2, l ++ [x], by go_num, hgo, Lib.hid (by rw [List.length_append, HLK.out]; rfl), rfl, HD6, by omega, Lib.hid (by rw [HTN.out, HM.out, if_neg (by omega), if_neg HNE.out, List.map_append, ← HXY.out]; rfl)⟩
                    case measure => simp [intOf]; omega
                  · have hR := HENS.out [] [] 3 (by rw [HTN.out, if_neg (by omega), if_pos (by rw [← HXY.out]; exact HEA.out.2 hC)])
                    rw [if_pos (by omega)] at hR
                    have HRES := Lib.hid hR
                    clear hR
                    refine wp_region_known [(8, .slice p.la p.ls.length p.lc), (10, .slice x.la x.ls.length x.lc), (11, .int .i64 C)] (by kernel_rfl) 78 (by kernel_rfl) rfl ?_
                    repeat (first
                      | (refine Chain.step (v := ?_) (a' := ?_) rfl rfl rfl ?_ ?_ ?_; rotate_left 2; (focus (intro w; go_simp; try with_reducible rfl)); focus (simp only [Act.put, pqA, pqS, pqZ]; try rfl))
                      | (refine Chain.call (i := 8) (a' := ?_) _ rfl rfl rfl (fun wx hw => ?_) ?_ ?_; rotate_left 1; (focus (have g0 := (Below.cell hw (p := ⟨bo, oo + q * 5, none⟩) hbo).trans HP0.out); (go_simp); (first | exact ⟨rfl, rB⟩ | exact rB)); focus (simp only [Act.put, pqA, pqS, pqZ]; try rfl))
                      | (refine Chain.call (i := 10) (a' := ?_) _ rfl rfl rfl (fun wx hw => ?_) ?_ ?_; rotate_left 1; (focus (obtain ⟨g0, g1, g2, g3, g4⟩ := Blk.c5 (HX4.out.below hw); go_simp; first | exact ⟨rfl, rB⟩ | exact rB)); focus (simp only [Act.put, pqA, pqS, pqZ]; try rfl))
                      | (refine Chain.call (i := 11) (a' := ?_) _ rfl rfl rfl (fun wx hw => ?_) ?_ ?_; rotate_left 1; (focus (go_simp; (with_reducible refine (HCM.out _ hw).mono ?_); exact (fun e w' ⟨h1, h2⟩ => by subst h1; exact ⟨rfl, h2⟩))); focus (simp only [Act.put, pqA, pqS, pqZ]; try rfl))
                      | (refine Chain.skip (a' := ?_) rfl rfl rfl ?_ ?_; rotate_left 1; focus (simp only [Act.put, pqA, pqS, pqZ]; try rfl)))
                    refine Chain.end_ (fun wz hwz _ => ?_)
                    have HBX := Lib.hid (below_trans HB4.out hwz)
                    go_wp2_with fail
                    go_ret2
                    rw [HRES.out]
                    exact RetEs.no HBX.out
      · have hne : kd.toNat ≠ 5 := fun h => h2 (UInt8.toNat_inj.1 h)
        have hb : (((kd.toNat : Nat) : Int) == 5) = false := by rw [beq_eq_false_iff_ne]; omega
        have hb' : (((kd.toNat : Nat) : Int) != 5) = true := by rw [bne_iff_ne]; omega
        have hres : R = ([], 3) := by
          rw [HR.out]
          exact entriesR_bad (by rw [HO.out]; simp [h2]) (by omega)
        have HRES := Lib.hid hres
        clear hne h2 hres HO HR
        go_enter Tryz.func11, Tryz.ntmps11
        go_wp2_with fail
        refine (HC.out _).mono ?_
        rintro e w1 ⟨rfl, hb1⟩
        have HB1 := Lib.hid (below_trans hb1 (below_al w1 (.cells #[.int .u8 (kd.toNat : Nat), .string (bs d)] 108)))
        clear hb1 HC
        go_wp2_with fail
        go_ret2
        rw [HRES.out]
        exact RetEs.no HB1.out
    · have hb : r.isEmpty = false := by cases r; exact absurd rfl h1; rfl
      have hb2 : (r != []) = true := by rw [bne_iff_ne]; exact h1
      have hres : R = ([], 3) := by
        rw [HR.out]
        exact entriesR_bad (by rw [HO.out]; simp [h1]) (by omega)
      have HRES := Lib.hid hres
      clear h1 hres HO HR
      go_enter Tryz.func11, Tryz.ntmps11
      go_wp2_with fail
      refine (HC.out _).mono ?_
      rintro e w1 ⟨rfl, hb1⟩
      have HB1 := Lib.hid (below_trans hb1 (below_al w1 (.cells #[.int .u8 (kd.toNat : Nat), .string (bs d)] 108)))
      clear hb1 HC
      go_wp2_with fail
      go_ret2
      rw [HRES.out]
      exact RetEs.no HB1.out
  · have hb : ((er : Int) == 0) = false := by rw [beq_eq_false_iff_ne]; omega
    have hres : R = ([], er) := by
      rw [HR.out]
      exact entriesR_bad (by rw [HO.out]; simp [h0]) h0
    have HRES := Lib.hid hres
    clear h0 hres HO HR hdl
    go_enter Tryz.func11, Tryz.ntmps11
    go_wp2_with fail
    refine (HC.out _).mono ?_
    rintro e w1 ⟨rfl, hb1⟩
    have HB1 := Lib.hid (below_trans hb1 (below_al w1 (.cells #[.int .u8 (kd.toNat : Nat), .string (bs d)] 108)))
    clear hb1 HC
    go_wp2_with fail
    go_ret2
    rw [HRES.out]
    exact RetEs.no HB1.out
end Go.Proofs.YtgabmfibfikdbaaGreatDoor
