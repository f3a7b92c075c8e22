/-
  Layer 14: the walks of merge.Between and of the reference's Between.
-/
import Derived.Test.YtjklcojnbcemoaaGreatDoorZMrgB
import Derived.Test.YtjklcojnbcemoaaGreatDoorZMrgL
import Derived.Test.YtjklcojnbcemoaaGreatDoorZMrgD
import Derived.Test.YtjklcojnbcemoaaGreatDoorZMrgA

namespace Go.Proofs.YtjklcojnbcemoaaGreatDoor
open Go.RowKit Go.Bar Go.Bar.Leb Go.Bar.Lab Go.Bar.Xor Go.Bar.Mrg

theorem inT_cases (a b : Int) (x : Sm) : (inT a b x = true ∧ a ≤ x.1 ∧ x.1 < b) ∨ (inT a b x = false ∧ x.1 < a) ∨ (inT a b x = false ∧ a ≤ x.1 ∧ b ≤ x.1) := by
  unfold inT
  by_cases h1 : a ≤ x.1
  · by_cases h2 : x.1 < b
    · exact .inl ⟨by rw [decide_eq_true h1, decide_eq_true h2]; rfl, h1, h2⟩
    · exact .inr (.inr ⟨by rw [decide_eq_false h2, Bool.and_false], h1, by omega⟩)
  · exact .inr (.inl ⟨by rw [decide_eq_false h1]; rfl, by omega⟩)
theorem filter_snoc {l : List Sm} {k : Nat} {x : Sm} (p : Sm → Bool) (h : l[k]? = some x) : (l.take (k + 1)).filter p = (l.take k).filter p ++ (if p x = true then [x] else []) := by
  rw [List.take_add_one, h, List.filter_append]
  congr 1
  simp only [Option.toList]
  rw [List.filter_cons, List.filter_nil]
theorem betw_take {R : List Row} {k : Nat} {r : Row} (a b : Int) (h : R[k]? = some r) : betw (R.take (k + 1)) a b = betw (R.take k) a b ++ (match cutR a b r with | none => [] | some x => [x]) := by
  unfold betw
  rw [List.take_add_one, h, List.filterMap_append]
  congr 1
  simp only [Option.toList, List.filterMap_cons, List.filterMap_nil]
  cases cutR a b r <;> rfl

set_option maxHeartbeats 8000000 in
set_option maxRecDepth 10000 in
theorem mbetween_any (v : Value) (t : List Rv) (a b : Int) (w : World) (h : TbAt w v t) (hl : t.length ≤ 1000000) (hp : ∀ x ∈ t, x.ls.length ≤ 1000000 ∧ x.ss.length ≤ 1000000) :
    Calls Tryz.prog 41 #[v, .int .i64 a, .int .i64 b] w (RetDt w w w 50 84 (betw (t.map plR) a b)) := by
  obtain ⟨A, c, rfl, hlc, hcm⟩ := h.shape
  unfold maxLen at hcm
  have HT := Lib.hid h
  have HP := Lib.hid hp
  have HN0 : Hid (DTb w w w w 50 84 (.slice none 0 0) []) := Lib.hid (DTb.nil (Below.refl _ _) (Below.refl _ _) _ _)
  clear h hp
  go_enter Tryz.func41, Tryz.ntmps41
  go_wp2_with fail
  go_loopw [7, 15] (fun d i wr => ∃ (k : Nat) (O : List Rv), k ≤ t.length ∧ i = .int .i64 k ∧ O.length ≤ k ∧ Hid (DTb w w w wr 50 84 d O) ∧ Hid (O.map plR = betw ((t.map plR).take k) a b)) (fun _ i _ => t.length - (intOf i).toNat)
  case atStart => exact ⟨0, [], Nat.zero_le _, rfl, Nat.le_refl _, HN0, Lib.hid rfl⟩
  case round =>
    obtain ⟨k, O, hk, rfl, hO, HNB, HRR⟩ := hrel
    obtain ⟨fA, fc, rfl, hfc⟩ := HNB.out.n.buf.shape
    have hbw := HNB.out.n.below
    clear HN0
    by_cases hgo : k < t.length
    · obtain ⟨x, hx⟩ : ∃ x, t[k]? = some x := ⟨_, List.getElem?_eq_getElem hgo⟩
      obtain ⟨xL, xS, la, lc, sa, sc⟩ := x
      obtain ⟨xb, xo, rfl, x0, x1, _⟩ := (HT.out.below hbw).at_ hx
      have HRX := Lib.hid (show PsAt w (.slice la xL.length lc) xL ∧ SmsAt w (.slice sa xS.length sc) xS from HT.out.2 _ (List.mem_of_getElem? hx))
      dsimp only at x0 x1
      have hrr := betw_take (R := t.map plR) (k := k) (r := (xL, xS)) a b (by rw [List.getElem?_map, hx]; rfl)
      rw [← HRR.out] at hrr
      have HR2 := Lib.hid hrr
      obtain ⟨hxl, hxs⟩ : xL.length ≤ 1000000 ∧ xS.length ≤ 1000000 := HP.out _ (List.mem_of_getElem? hx)
      obtain ⟨n, hn⟩ : ∃ n, n = O.length := ⟨_, rfl⟩
      have hnb : n ≤ 1000000 := by omega
      have HNN := Lib.hid hn
      have HNK := Lib.hid (show n ≤ k by omega)
      clear hrr hx HRR hn hO
      obtain ⟨wx, hwx⟩ : ∃ wx, wx = wr.alloc (.cells #[.slice la xL.length lc, .slice sa xS.length sc] 50) := ⟨_, rfl⟩
      have hbx : Below wr.heap.size wr wx := by rw [hwx]; exact below_alloc1 _ _
      have HXB : Hid (Blk wx wr.heap.size 50 #[.slice la xL.length lc, .slice sa xS.length sc]) := Lib.hid (by rw [hwx]; exact Blk.new _ _ _)
      have HNX := Lib.hid (HNB.out.below hbx)
      have hbWx := below_trans hbw hbx
      go_upto_region 5 with fail
      rw [← hwx]
      obtain ⟨X, hX⟩ : ∃ X, X = wr.heap.size := ⟨_, rfl⟩
      rw [← hX] at HXB ⊢
      rw [← HNN.out] at HNX ⊢
      obtain ⟨k0, k1⟩ := HXB.out.c2
      have HXN := Lib.hid (NBuf.nil (Below.refl wx.heap.size wx) 42 2)
      clear hwx hX HNB hbx
      go_wp2_with fail
      go_loopw [10, 22] (fun d i wz => ∃ (j : Nat) (P : List Sm), j ≤ xS.length ∧ P.length ≤ j ∧ i = .int .i64 j ∧ Hid (NBuf wx wz 42 2 d P.length (smc P)) ∧ Hid (P = (xS.take j).filter (inT a b))) (fun _ i _ => xS.length - (intOf i).toNat)
      case atStart => exact ⟨0, [], Nat.zero_le _, Nat.le_refl _, rfl, HXN, Lib.hid rfl⟩
      case round =>
        obtain ⟨j, P, hj, hPj, rfl, HJ, HPF⟩ := hrel
        obtain ⟨jA, jc, rfl, hjc⟩ := HJ.out.buf.shape
        clear HXN
        by_cases hgo2 : j < xS.length
        · obtain ⟨s, hs⟩ : ∃ s, xS[j]? = some s := ⟨_, List.getElem?_eq_getElem hgo2⟩
          obtain ⟨pb, po, rfl, hpb, g1, g2⟩ := (HRX.out.2.below (below_trans hbWx HJ.out.below)).at_ hs
          have hfs := filter_snoc (inT a b) hs
          rw [← HPF.out] at hfs
          have HFS := Lib.hid hfs
          have HN1 := Lib.hid (HJ.out.alloc (.cells #[.int .i64 s.1, .int .u64 (s.2 : Nat)] 42))
          clear hs hfs
          rcases inT_cases a b s with ⟨hi, h1, h2⟩ | ⟨hi, h1⟩ | ⟨hi, h1, h2⟩
          · have HI := Lib.hid hi
            have hd1 : decide (a ≤ s.1) = true := decide_eq_true h1
            have hd2 : decide (s.1 < b) = true := decide_eq_true h2
            clear hi
            go_wp2_with (at_builtin; refine wpList_append_nlit rfl (.tmp 36) (.tmp 38) 48 rfl sm_ty rfl HN1.out rfl (by simp) rfl (by simp [Value.oneCell']) (by simp only [maxLen]; omega) (by omega) ?_; intro v3 w3 hn3 _; have HN3 := Lib.hid hn3; clear hn3)
            go_roundw
            case rel => exact ⟨j + 1, P ++ [s], by omega, by simp; omega, by go_num, Lib.hid (by rw [List.length_append, smc_snoc]; exact HN3.out), Lib.hid (by rw [HFS.out, if_pos HI.out])⟩
            case measure => simp [intOf]; omega
          · have HI := Lib.hid (show ¬ inT a b s = true by rw [hi]; exact Bool.false_ne_true)
            have hd1 : decide (a ≤ s.1) = false := decide_eq_false (by omega)
            clear hi
            go_wp2_with fail
            go_roundw
            case rel => exact ⟨j + 1, P, by omega, by omega, by go_num, HN1, Lib.hid (by rw [HFS.out, if_neg HI.out, List.append_nil])⟩
            case measure => simp [intOf]; omega
          · have HI := Lib.hid (show ¬ inT a b s = true by rw [hi]; exact Bool.false_ne_true)
            have hd1 : decide (a ≤ s.1) = true := decide_eq_true h1
            have hd2 : decide (s.1 < b) = false := decide_eq_false (by omega)
            clear hi
            go_wp2_with fail
            go_roundw
            case rel => exact ⟨j + 1, P, by omega, by omega, by go_num, HN1, Lib.hid (by rw [HFS.out, if_neg HI.out, List.append_nil])⟩
            case measure => simp [intOf]; omega
        · obtain rfl : j = xS.length := by omega
          have hpf := HPF.out
          rw [List.take_length] at hpf
          have hrr := HR2.out
          unfold cutR at hrr
          dsimp only at hrr
          rw [← hpf] at hrr
          have HB2 := Lib.hid (below_trans hbWx HJ.out.below)
          clear hpf HPF HR2
          rcases P with _ | ⟨p0, P⟩
          · rw [if_pos rfl] at hrr
            have HR3 := Lib.hid hrr
            have HD := Lib.hid (HNX.out.below HJ.out.below)
            clear hrr
            go_wp2_with fail
            go_roundw
            case rel => exact ⟨k + 1, O, by omega, by go_num, by have := HNN.out; have := HNK.out; omega, HD, Lib.hid (by rw [HR3.out, List.append_nil])⟩
            case measure => simp [intOf]; omega
          · obtain ⟨P', hP'⟩ : ∃ P', P' = p0 :: P := ⟨_, rfl⟩
            have hpos : 0 < P'.length := by rw [hP']; simp
            rw [if_neg (by simp)] at hrr
            rw [← hP'] at hrr HJ hPj ⊢
            have HR3 := Lib.hid hrr
            have hcl := cloneSet_any (.slice la xL.length lc) xL wr (HRX.out.1.below HB2.out) hxl
            have HCL := Lib.hid hcl
            have hpi : (0 : Int) < (P'.length : Int) := by omega
            obtain ⟨q0, q1⟩ := (HXB.out.below HJ.out.below).c2
            clear hrr hcl hP'
            go_wp2_with fail
            refine HCL.out.mono ?_
            rintro e w6 ⟨v6, rfl, n6⟩
            obtain ⟨A6, c6, rfl, hc6⟩ := n6.buf.shape
            have HL6 := Lib.hid (n6.after HB2.out)
            have HS6 := Lib.hid ((HJ.out.after hbWx).then_below n6.below)
            have HD6 := Lib.hid (HNX.out.below (below_trans HJ.out.below n6.below))
            clear n6 HCL
            go_wp2_with (at_builtin; refine wpList_append_nlit rfl (.tmp 44) (.tmp 50) 23 rfl mrow_ty rfl HD6.out.n rfl (by simp) rfl (by simp [Value.oneCell']) (by simp only [maxLen]; have := HNN.out; omega) (by have := HNN.out; omega) ?_; intro v4 w4 hn4 ha4; have HD4 := Lib.hid (DTb.snoc (x := ⟨xL, P', A6, c6, jA, jc⟩) (HD6.out.below (below_alloc1 _ _)) ⟨.inr (HL6.out.alloc _), .inr (HS6.out.alloc _)⟩ hn4 ha4 (by decide) (by decide)); clear hn4 ha4)
            go_roundw
            case rel => exact ⟨k + 1, _, by omega, by go_num, by have := HNN.out; have := HNK.out; simp; omega, HD4, Lib.hid (by rw [HR3.out, List.map_append]; rfl)⟩
            case measure => simp [intOf]; omega
    · obtain rfl : k = t.length := by omega
      have hrr := HRR.out
      rw [List.take_of_length_le (by rw [List.length_map]; exact Nat.le_refl _)] at hrr
      have HR2 := Lib.hid hrr
      clear hrr HRR
      go_wp2_with fail
      go_ret
      exact ⟨_, O, rfl, HNB.out, HR2.out⟩

/-- a row's points between two times -/
def ptsC (a b : Int) (r : Row) : List Pt := (r.2.filter (inT a b)).map (fun s => (r.1, s))
theorem ptsC_len (a b : Int) : ∀ R : List Row, (R.flatMap (ptsC a b)).length ≤ cntR R
  | [] => Nat.le_refl _
  | r :: R => by
    have h1 := ptsC_len a b R
    have h2 : (ptsC a b r).length ≤ r.2.length := by unfold ptsC; rw [List.length_map]; exact List.length_filter_le _ _
    have h3 : cntR (r :: R) = r.2.length + cntR R := by unfold cntR; rfl
    rw [List.flatMap_cons, List.length_append, h3]
    omega
theorem pts_snoc (X : List Pt) (L : List Pr) (S : List Sm) (a b : Int) {j : Nat} {s : Sm} (h : S[j]? = some s) : X ++ ((S.take (j + 1)).filter (inT a b)).map (fun s => (L, s)) = (X ++ ((S.take j).filter (inT a b)).map (fun s => (L, s))) ++ (if inT a b s = true then [(L, s)] else []) := by
  rw [filter_snoc (inT a b) h, List.map_append, List.append_assoc]
  congr 2
  split <;> rfl

end Go.Proofs.YtjklcojnbcemoaaGreatDoor
