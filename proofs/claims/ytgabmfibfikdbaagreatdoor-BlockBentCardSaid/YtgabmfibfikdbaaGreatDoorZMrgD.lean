/-
  Layer 14: the laws' own functions: Labels, Told, Rows, Table.
-/
import Derived.Test.YtgabmfibfikdbaaGreatDoorZMrgC
import Derived.Test.YtgabmfibfikdbaaGreatDoorZLabH

namespace Go.Proofs.YtgabmfibfikdbaaGreatDoor
open Go.RowKit Go.Bar Go.Bar.Leb Go.Bar.Lab Go.Bar.Xor Go.Bar.Mrg

/-- one of five sets of labels -/
def lab5 (n : Nat) : List Pr := match n % 5 with
  | 0 => [([97], [49])]
  | 1 => [([97], [49]), ([98], [50])]
  | 2 => [([97], [50])]
  | 3 => [([98], [49])]
  | _ => [([106, 111, 98], [120])]
def lab5t (j : Nat) : List UInt8 := match j with
  | 0 => [97, 61, 49]
  | 1 => [97, 61, 49, 44, 98, 61, 50]
  | 2 => [97, 61, 50]
  | 3 => [98, 61, 49]
  | _ => [106, 111, 98, 61, 120]
theorem lab5_parse (n : Nat) : parse (lab5t (n % 5)) = (lab5 n, 0) := by
  have h : n % 5 < 5 := Nat.mod_lt _ (by decide)
  unfold lab5
  generalize n % 5 = j at h
  rcases j with _ | _ | _ | _ | _ | j
  · decide
  · decide
  · decide
  · decide
  · decide
  · omega
theorem lab5_len (n : Nat) : (lab5 n).length ≤ 2 := by
  unfold lab5
  split <;> decide
def RetN14 (w : World) (T : TypeId) (l : List Pr) (e : Ending) (w' : World) : Prop := ∃ v, e = .returned v ∧ NBuf w w' T 2 v l.length (pcs l)

set_option maxHeartbeats 4000000 in
set_option maxRecDepth 10000 in
theorem labels_any (n : Nat) (w : World) : Calls Tryz.prog 56 #[.int .u8 (n : Nat)] w (RetN14 w 128 (lab5 n)) := by
  have hp := fun w => parse_any6 (lab5t (n % 5)) w (by
    have h : n % 5 < 5 := Nat.mod_lt _ (by decide)
    generalize n % 5 = j at h
    rcases j with _ | _ | _ | _ | _ | j <;> simp [lab5t])
  unfold RetPs at hp
  rw [lab5_parse] at hp
  obtain ⟨L, hL⟩ : ∃ L, L = lab5 n := ⟨_, rfl⟩
  rw [← hL] at hp ⊢
  clear hL
  have hm : (n : Int) % 5 = ((n % 5 : Nat) : Int) := by omega
  have h : n % 5 < 5 := Nat.mod_lt _ (by decide)
  generalize n % 5 = j at h hp hm
  have HP := Lib.hid hp
  clear hp
  rcases j with _ | _ | _ | _ | _ | j
  case succ.succ.succ.succ.succ => omega
  all_goals
    have hm2 : (n : Int) % 5 = _ := hm
    go_enter Tryz.func56, Tryz.ntmps56
    go_wp2_with fail
    refine (HP.out _).mono ?_
    rintro e w1 ⟨v, rfl, hn⟩
    have HN := Lib.hid hn
    clear hn
    go_wp2_with fail
    go_ret
    exact ⟨v, rfl, HN.out.after (below_alloc1 _ _)⟩

set_option maxHeartbeats 8000000 in
set_option maxRecDepth 10000 in
theorem told14_any (v : Value) (t : List Rv) (w : World) (h : TbAt w v t) (hl : t.length ≤ 1000000) (hp : ∀ x ∈ t, x.ls.length ≤ 1000000) :
    Calls Tryz.prog 29 #[v] w (RetDt w w w 62 146 (t.map plR)) := by
  obtain ⟨A, c, rfl, hlc, hcm⟩ := h.shape
  unfold maxLen at hcm
  have HT := Lib.hid h
  have HP := Lib.hid hp
  have HN0 : Hid (DTb w w w (w.alloc (.cells #[] 62)) 62 146 (.slice (some ⟨w.heap.size, 0, none⟩) 0 0) []) := Lib.hid ⟨NBuf.lit0 (Below.refl w.heap.size w) 62 2, Below.refl _ _, fun x hx => by cases hx⟩
  clear h hp
  go_enter Tryz.func29, Tryz.ntmps29
  go_wp2_with fail
  go_loopw [3, 9] (fun d i wr => ∃ (k : Nat) (O : List Rv), k ≤ t.length ∧ i = .int .i64 k ∧ O.length = k ∧ Hid (DTb w w w wr 62 146 d O) ∧ Hid (O.map plR = (t.map plR).take k)) (fun _ i _ => t.length - (intOf i).toNat)
  case atStart => exact ⟨0, [], Nat.zero_le _, rfl, rfl, HN0, Lib.hid rfl⟩
  case round =>
    obtain ⟨k, O, hk, rfl, hO, HNB, HRR⟩ := hrel
    obtain ⟨fA, fc, rfl, hfc⟩ := HNB.out.n.buf.shape
    have hbw := HNB.out.n.below
    clear HN0
    by_cases hgo : k < t.length
    · obtain ⟨x, hx⟩ : ∃ x, t[k]? = some x := ⟨_, List.getElem?_eq_getElem hgo⟩
      obtain ⟨xb, xo, rfl, x0, x1, _⟩ := (HT.out.below hbw).at_ hx
      have hrr : O.map plR ++ [plR x] = (t.map plR).take (k + 1) := by
        rw [List.take_add_one, List.getElem?_map, hx, HRR.out]; rfl
      have HR2 := Lib.hid hrr
      have HRX := Lib.hid (HT.out.2 x (List.mem_of_getElem? hx))
      obtain ⟨n, hn⟩ : ∃ n, n = O.length := ⟨_, rfl⟩
      have HNK := Lib.hid (hn.trans hO)
      have hnb : n ≤ 1000000 := by have := HNK.out; omega
      have HNN := Lib.hid hn
      have hxl := HP.out x (List.mem_of_getElem? hx)
      have htl := fun w' (hb : Below w.heap.size w w') => told_any6 (.slice x.la x.ls.length x.lc) x.ls w' (HRX.out.1.below hb) hxl
      have HTL := Lib.hid htl
      clear hrr hx HRR htl hO hn
      obtain ⟨wx, hwx⟩ : ∃ wx, wx = wr.alloc (.cells #[.slice x.la x.ls.length x.lc, .slice x.sa x.ss.length x.sc] 94) := ⟨_, rfl⟩
      have hbx : Below wr.heap.size wr wx := by rw [hwx]; exact below_alloc1 _ _
      have HXB : Hid (Blk wx wr.heap.size 94 #[.slice x.la x.ls.length x.lc, .slice x.sa x.ss.length x.sc]) := Lib.hid (by rw [hwx]; exact Blk.new _ _ _)
      have HNX := Lib.hid (HNB.out.below hbx)
      have hbWx := below_trans hbw hbx
      go_upto_region 5 with fail
      rw [← hwx]
      obtain ⟨X, hX⟩ : ∃ X, X = wr.heap.size := ⟨_, rfl⟩
      rw [← hX] at HXB ⊢
      rw [← HNN.out] at HNX ⊢
      clear hwx hX HNB hbx
      obtain ⟨k0, k1⟩ := HXB.out.c2
      go_region_law (first
        | (((rw [if_pos (by rfl)]); go_simp; go_at_call 54; refine (HTL.out _ hbWx.drew).mono ?_; rintro e w6 ⟨v6, rfl, n6⟩; obtain ⟨A6, c6, rfl, hc6⟩ := n6.buf.shape; have b6 : Below wx.heap.size wx w6 := below_trans (Below.refl _ _).drew n6.below; obtain ⟨q0, q1⟩ := (HXB.out.below b6).c2; dsimp only))
        | ((refine step_append_buf rfl (.tmp 13) (.tmp 20) 57 rfl rrow_ty rfl ((HNX.out.n.buf.below b6).alloc _) rfl ((Buf.lit w6 62 2 1 [.slice A6 x.ls.length c6, .slice x.sa x.ss.length x.sc] rfl (by decide)).src rrow_ty.slice (by simp [Value.oneCell'])) (by simp only [maxLen]; have := HNN.out; omega) (by have := HNN.out; omega) ?_; intro v2 w2 hb2 ha2 hg2; have HB8 := Lib.hid (And.intro hb2 (And.intro ha2 hg2)); clear hb2 ha2 hg2)))
      all_goals
        have hdx := HNX.out.below (below_trans b6 (below_alloc1 _ (.cells #[.slice A6 x.ls.length c6, .slice x.sa x.ss.length x.sc] 62)))
        have hd := DTb.snoc (x := ⟨x.ls, x.ss, A6, c6, x.sa, x.sc⟩) hdx ⟨.inr ((n6.after hbWx.drew).alloc _), .inl HRX.out.2⟩ (hdx.n.step HB8.out.1 HB8.out.2.1 HB8.out.2.2) HB8.out.2.1 (by decide) (by decide)
        have HD := Lib.hid hd
        clear hd hdx n6 b6 q0 q1 k0 k1
        go_wp2_with fail
        go_roundw
        case rel => exact ⟨k + 1, _, by omega, by go_num, by rw [List.length_append, ← HNN.out, HNK.out]; rfl, HD, Lib.hid (by rw [List.map_append, ← HR2.out]; rfl)⟩
        case measure => simp [intOf]; omega
    · obtain rfl : k = t.length := by omega
      have hrr := HRR.out
      rw [List.take_of_length_le (by rw [List.length_map]; exact Nat.le_refl _)] at hrr
      have HR2 := Lib.hid hrr
      clear hrr HRR
      go_wp2_with fail
      go_ret
      exact ⟨_, O, rfl, HNB.out, HR2.out⟩

theorem pair_ty14 : ElemTy Tryz.prog 43 128 (.agg #[.string ByteArray.empty, .string ByteArray.empty]) 2 32 :=
  ⟨Tryz.underlying43, info_parts (show (Tryz.prog.info? 128).map (fun i => (i.zero, i.size, i.bytes)) = some (some (.agg #[.string ByteArray.empty, .string ByteArray.empty]), 2, 32) by kernel_rfl), rfl⟩

set_option maxHeartbeats 8000000 in
set_option maxRecDepth 10000 in
theorem rows14_any (B : World) (v : Value) (t : List Rv) (w : World) (h : TbAt w v t) (hl : t.length ≤ 1000000) (hp : ∀ x ∈ t, x.ls.length ≤ 1000000 ∧ x.ss.length ≤ 1000000) :
    Calls Tryz.prog 23 #[v] w (RetDt B w w 94 128 (t.map plR)) := by
  obtain ⟨A, c, rfl, hlc, hcm⟩ := h.shape
  unfold maxLen at hcm
  have HT := Lib.hid h
  have HP := Lib.hid hp
  have HN0 : Hid (DTb B w w (w.alloc (.cells #[] 94)) 94 128 (.slice (some ⟨w.heap.size, 0, none⟩) 0 0) []) := Lib.hid ⟨NBuf.lit0 (Below.refl w.heap.size w) 94 2, Below.refl _ _, fun x hx => by cases hx⟩
  clear h hp
  go_enter Tryz.func23, Tryz.ntmps23
  go_wp2_with fail
  go_loopw [3, 12] (fun d i wr => ∃ (k : Nat) (O : List Rv), k ≤ t.length ∧ i = .int .i64 k ∧ Hid (O.length = k) ∧ Hid (DTb B w w wr 94 128 d O) ∧ Hid (O.map plR = (t.map plR).take k)) (fun _ i _ => t.length - (intOf i).toNat)
  case atStart => exact ⟨0, [], Nat.zero_le _, rfl, Lib.hid rfl, HN0, Lib.hid rfl⟩
  case round =>
    obtain ⟨k, O, hk, rfl, hO, HNB, HRR⟩ := hrel
    obtain ⟨fA, fc, rfl, hfc⟩ := HNB.out.n.buf.shape
    have hbw := HNB.out.n.below
    clear HN0
    by_cases hgo : k < t.length
    · obtain ⟨x, hx⟩ : ∃ x, t[k]? = some x := ⟨_, List.getElem?_eq_getElem hgo⟩
      obtain ⟨xL, xS, la, lc, sa, sc⟩ := x
      obtain ⟨xb, xo, rfl, x0, x1, _⟩ := (HT.out.below hbw).at_ hx
      have hrr : O.map plR ++ [plR ⟨xL, xS, la, lc, sa, sc⟩] = (t.map plR).take (k + 1) := by
        rw [List.take_add_one, List.getElem?_map, hx, HRR.out]; rfl
      have HR2 := Lib.hid hrr
      have HRX := Lib.hid (show PsAt w (.slice la xL.length lc) xL ∧ SmsAt w (.slice sa xS.length sc) xS from HT.out.2 _ (List.mem_of_getElem? hx))
      dsimp only at x0 x1
      obtain ⟨n, hn⟩ : ∃ n, n = O.length := ⟨_, rfl⟩
      have hnb : n ≤ 1000000 := by have := hO.out; omega
      have HNN := Lib.hid hn
      obtain ⟨hxl, hxs⟩ : xL.length ≤ 1000000 ∧ xS.length ≤ 1000000 := HP.out _ (List.mem_of_getElem? hx)
      clear hrr hx HRR hn
      obtain ⟨wx, hwx⟩ : ∃ wx, wx = wr.alloc (.cells #[.slice la xL.length lc, .slice sa xS.length sc] 62) := ⟨_, rfl⟩
      have hbx : Below wr.heap.size wr wx := by rw [hwx]; exact below_alloc1 _ _
      have HXB : Hid (Blk wx wr.heap.size 62 #[.slice la xL.length lc, .slice sa xS.length sc]) := Lib.hid (by rw [hwx]; exact Blk.new _ _ _)
      have HNX := Lib.hid (HNB.out.below hbx)
      have hbWx := below_trans hbw hbx
      go_upto_region 6 with fail
      rw [← hwx]
      obtain ⟨X, hX⟩ : ∃ X, X = wr.heap.size := ⟨_, rfl⟩
      rw [← hX] at HXB ⊢
      rw [← HNN.out] at HNX ⊢
      obtain ⟨k0, k1⟩ := HXB.out.c2
      have HXN := Lib.hid (NBuf.nil (Below.refl wx.heap.size wx) 128 2)
      clear hwx hX HNB hbx
      go_wp2_with fail
      go_loopw [6, 19] (fun d i wz => ∃ j : Nat, j ≤ xL.length ∧ i = .int .i64 j ∧ Hid (NBuf wx wz 128 2 d j (pcs (xL.take j)))) (fun _ i _ => xL.length - (intOf i).toNat)
      case atStart => exact ⟨0, Nat.zero_le _, rfl, HXN⟩
      case round =>
        obtain ⟨j, hj, rfl, HJ⟩ := hrel
        obtain ⟨jA, jc, rfl, hjc⟩ := HJ.out.buf.shape
        clear HXN
        by_cases hgo2 : j < xL.length
        · obtain ⟨p, hpj⟩ : ∃ p, xL[j]? = some p := ⟨_, List.getElem?_eq_getElem hgo2⟩
          obtain ⟨pb, po, rfl, hpb, g1, g2⟩ := (HRX.out.1.below (below_trans hbWx HJ.out.below)).at_ hpj
          have HPJ := Lib.hid hpj
          have HN1 := Lib.hid (HJ.out.alloc (.cells #[.string (bs p.1), .string (bs p.2)] 146))
          clear hpj
          go_wp2_with (at_builtin; refine wpList_append_nlit rfl (.tmp 23) (.tmp 25) 43 rfl pair_ty14 rfl HN1.out rfl (by simp) rfl (by simp [Value.oneCell']) (by simp only [maxLen]; omega) (by omega) ?_; intro v3 w3 hn3 _; have HN3 := Lib.hid hn3; clear hn3)
          go_roundw
          case rel =>
            refine ⟨j + 1, by omega, by go_num, Lib.hid ?_⟩
            rw [List.take_add_one, HPJ.out, pcs_append]
            exact HN3.out
          case measure => simp [intOf]; omega
        · obtain rfl : j = xL.length := by omega
          have hjn := HJ.out
          rw [List.take_length] at hjn
          have HJN := Lib.hid hjn
          have hb2 := below_trans hbWx hjn.below
          have HN2 := Lib.hid (HNX.out.below (below_trans hjn.below (below_alloc1 _ (.cells #[] 41))))
          obtain ⟨q0, q1⟩ := (HXB.out.below hjn.below).c2
          obtain ⟨r0, r1⟩ := (HXB.out.below (below_trans hjn.below (below_alloc1 _ (.cells #[] 41)))).c2
          have HL0 := Lib.hid (NBuf.lit0 (Below.refl wr.heap.size wr) 41 2)
          have HSR := Lib.hid (SlAt.src (P := Tryz.prog) (HRX.out.2.below (below_trans hb2 (below_alloc1 _ (.cells #[] 41)))) (by omega) (t := 32) Tryz.underlying32 (smc_one xS))
          clear hjn HJ
          have hld := fun (w3 : World) (hb : Below wr.heap.size wr w3) => HNX.out.below (below_trans HJN.out.below hb)
          have HLD := Lib.hid hld
          clear hld
          go_wp2_with (at_builtin; first | (refine wpList_append_el rfl (.tmp 30) (.tmp 32) 32 32 rfl sm_ty rfl HL0.out.buf rfl HSR.out (by simp only [maxLen]; omega) (by omega) ?_; intro v3 w3 hb3 ha3 hg3; have hn3 := HL0.out.step hb3 ha3 hg3; rw [Nat.zero_add, List.nil_append] at hn3; have HN3 := Lib.hid hn3; have HD3 := Lib.hid (HLD.out _ hn3.below); obtain ⟨A3, c3, rfl, hc3⟩ := hn3.buf.shape; clear hb3 ha3 hg3 hn3) | (refine wpList_append_nlit rfl (.tmp 28) (.tmp 35) 56 rfl mrow_ty rfl HD3.out.n rfl (by simp) rfl (by simp [Value.oneCell']) (by simp only [maxLen]; have := HNN.out; omega) (by have := HNN.out; omega) ?_; intro v4 w4 hn4 ha4; have HD4 := Lib.hid (DTb.snoc (x := ⟨xL, xS, jA, jc, A3, c3⟩) (HD3.out.below (below_alloc1 _ _)) ⟨.inr (((HJN.out.after hbWx).then_below (below_trans HN3.out.below (below_alloc1 _ _)))), .inr ((HN3.out.after hb2).alloc _)⟩ hn4 ha4 (by decide) (by decide)); clear hn4 ha4))
          go_roundw
          case rel => exact ⟨k + 1, _, by omega, by go_num, Lib.hid (by rw [List.length_append, hO.out]; rfl), HD4, Lib.hid (by rw [List.map_append, ← HR2.out]; rfl)⟩
          case measure => simp [intOf]; omega
    · obtain rfl : k = t.length := by omega
      have hrr := HRR.out
      rw [List.take_of_length_le (by rw [List.length_map]; exact Nat.le_refl _)] at hrr
      have HR2 := Lib.hid hrr
      clear hrr HRR
      go_wp2_with fail
      go_ret
      exact ⟨_, O, rfl, HNB.out, HR2.out⟩
end Go.Proofs.YtgabmfibfikdbaaGreatDoor
