/-
  The document's answer for layer 11 (barographref11): the walks of Since, Number, Same.
-/
import Derived.Test.YtcopknopifbebaaGreatDoorZFrmN
import Derived.Test.YtcopknopifbebaaGreatDoorZLib4
import Derived.Test.YtcopknopifbebaaGreatDoorZWalN
import Derived.Deep.QuietTactic
import Derived.BigQuiet
import Derived.Test.YtcopknopifbebaaGreatDoorZLib17

namespace Go.Bar.Wal
open Go.RowKit Go.Bar Go.Bar.Leb Go.Bar.Frm
theorem since_yes (l : List Rc) (d : List UInt8) : since (l ++ [(255, d)]) = [] := since_reset l d (fun r hr => (by cases hr))
theorem since_no (l : List Rc) {r : Rc} (h : r.1 ≠ 255) : since (l ++ [r]) = since l ++ [r] := since_append l (fun q hq => by obtain rfl := List.mem_singleton.1 hq; exact h)
theorem since_len (l : List Rc) : (since l).length ≤ l.length := by
  unfold since
  rw [List.length_reverse]
  have := (List.takeWhile_sublist (fun r : Rc => r.1 != 255) (l := l.reverse)).length_le
  rw [List.length_reverse] at this
  exact this
theorem refNum_bad {s : Nm} (h : s.length < 12 ∨ 17 < s.length ∨ s.take 4 ≠ pre ∨ (12 < s.length ∧ s.getD 4 0 = 48)) : refNum s = 0 := by
  unfold refNum; rw [if_pos h]
theorem refNum_not {s : Nm} (h : ¬ ∀ c ∈ s.drop 4, isD c) : refNum s = 0 := by
  unfold refNum
  by_cases hp : s.length < 12 ∨ 17 < s.length ∨ s.take 4 ≠ pre ∨ (12 < s.length ∧ s.getD 4 0 = 48)
  · rw [if_pos hp]
  · rw [if_neg hp, if_neg h]
theorem refNum_yes {s : Nm} (h : ¬ (s.length < 12 ∨ 17 < s.length ∨ s.take 4 ≠ pre ∨ (12 < s.length ∧ s.getD 4 0 = 48))) (hd : ∀ c ∈ s.drop 4, isD c) : refNum s = if 1099511627776 < dval 0 (s.drop 4) then 0 else dval 0 (s.drop 4) := by
  unfold refNum
  rw [if_neg h, if_pos hd]
end Go.Bar.Wal
namespace Go.Proofs.YtcopknopifbebaaGreatDoor
open Go.RowKit Go.Bar Go.Bar.Wal Go.Bar.Leb Go.Bar.Frm
def RRet (w : World) (rs : List Rc) (en : Ending) (w' : World) : Prop := ∃ v, en = .returned v ∧ NBuf w w' 78 2 v rs.length (frcs rs)

set_option maxHeartbeats 1000000 in
set_option maxRecDepth 10000 in
theorem rSince_any (v : Value) (rs : List Rc) (w : World) (h : RecsAt w v rs) (hn : rs.length ≤ 1000000000) : Calls Tryz.prog 64 #[v] w (RRet w (Wal.since rs)) := by
  obtain ⟨A, c, rfl, hlc, hcm⟩ := h.shape
  unfold maxLen at hcm
  go_enter Tryz.func64, Tryz.ntmps64
  go_wp2_with fail
  go_loopw [3, 9] (fun s i wr => ∃ k : Nat, k ≤ rs.length ∧ i = .int .i64 k ∧ Hid (NBuf w wr 78 2 s (Wal.since (rs.take k)).length (frcs (Wal.since (rs.take k))))) (fun _ i _ => rs.length - (intOf i).toNat)
  case atStart => exact ⟨0, Nat.zero_le _, rfl, NBuf.lit0 (Below.refl _ w) _ 2⟩
  case round =>
    obtain ⟨k, hk, rfl, hs⟩ := hrel
    by_cases hgo : k < rs.length
    · obtain ⟨⟨kd, d⟩, hki⟩ : ∃ r, rs[k]? = some r := ⟨_, List.getElem?_eq_getElem hgo⟩
      have hbl := hs.out.below
      obtain ⟨b, o, rfl, hlt, c0, c1⟩ := (h.below hbl).at_ hki
      have hci : (0 : Int) ≤ (k : Int) := by omega
      have hci2 : (k : Int) < rs.length := by omega
      have htk : rs.take (k + 1) = rs.take k ++ [(kd, d)] := by rw [List.take_add_one, hki]; rfl
      have hsl := since_len (rs.take k)
      rw [List.length_take, Nat.min_eq_left hk] at hsl
      by_cases h255 : kd = 255
      · subst h255
        have he : Hid (Wal.since (rs.take (k + 1)) = []) := by rw [htk]; exact since_yes _ _
        clear htk hki
        go_wp2_with fail
        go_roundw
        case rel =>
          have q := NBuf.lit0 (below_trans hbl ((Below.refl _ wr).alloc (Nat.le_refl _) (.cells #[.int .u8 255, .string (bs d)] 78))) 78 2
          rw [show (wr.alloc (.cells #[.int .u8 255, .string (bs d)] 78)).heap.size = wr.heap.size + 1 by simp] at q
          exact ⟨k + 1, by omega, by go_num, by rw [he.out]; exact q⟩
        case measure => simp [intOf]; omega
      · have he : Hid (Wal.since (rs.take (k + 1)) = Wal.since (rs.take k) ++ [(kd, d)]) := by rw [htk]; exact since_no _ h255
        have hk1 : ¬ kd.toNat = 255 := fun e => h255 (UInt8.toNat_inj.1 e)
        have hk2 : ¬ (kd.toNat : Int) = 255 := by omega
        obtain ⟨L, hL⟩ : ∃ L, L = Wal.since (rs.take k) := ⟨_, rfl⟩
        rw [← hL] at hs hsl he
        have hs1 := hs.out.alloc (.cells #[.int .u8 kd.toNat, .string (bs d)] 78)
        clear htk hki hL h255 hs
        go_wp2_with (at_builtin; refine wpList_append_nlit rfl (.tmp 17) (.tmp 19) 76 rfl rrec_ty rfl hs1 rfl (by simp) rfl (by simp [Value.oneCell']) (by simp only [maxLen]; omega) (by omega) ?_; intro v2 w2 hn2 _)
        go_roundw
        case rel => exact ⟨k + 1, by omega, by go_num, by rw [he.out, List.length_append]; show NBuf _ _ _ _ _ _ (frcs (_ ++ [(kd, d)])); rw [frcs_snoc]; exact hn2⟩
        case measure => simp [intOf]; omega
    · obtain rfl : k = rs.length := by omega
      rw [List.take_length] at hs
      clear hgo
      go_wp2_with fail
      go_ret
      exact ⟨_, rfl, hs.out⟩

set_option maxHeartbeats 1000000 in
set_option maxRecDepth 10000 in
theorem rSame_any (v u : Value) (rs qs : List Rc) (w : World) (h : RecsAt w v rs) (h' : RecsAt w u qs) : Calls Tryz.prog 38 #[v, u] w (Quiet w (.bool (decide (rs = qs)))) := by
  obtain ⟨A, c, rfl, hlc, hcm⟩ := h.shape
  obtain ⟨A2, c2, rfl, hlc2, hcm2⟩ := h'.shape
  unfold maxLen at hcm hcm2
  by_cases hl : rs.length = qs.length
  · have hres : ∀ k, k ≤ qs.length → rs.take k = qs.take k → (∀ x y, rs[k]? = some x → qs[k]? = some y → x ≠ y → decide (rs = qs) = false) := fun k hk he x y hx hy hxy => by
      refine decide_eq_false (fun e => ?_)
      rw [e, hy] at hx
      injection hx with hx
      exact hxy hx.symm
    have hall : rs.take qs.length = qs.take qs.length → decide (rs = qs) = true := fun he => by
      rw [← hl, List.take_length, hl, List.take_length] at he
      exact decide_eq_true he
    obtain ⟨R, hR⟩ : ∃ R, R = decide (rs = qs) := ⟨_, rfl⟩
    rw [← hR]
    rw [← hR] at hall
    simp only [← hR] at hres
    replace hall := Lib.hid hall
    replace hres := Lib.hid hres
    clear hR
    go_enter Tryz.func38, Tryz.ntmps38
    go_wp2_with fail
    go_loopw [13] (fun i wr => ∃ k n : Nat, k ≤ qs.length ∧ i = .int .i64 k ∧ wr = w.drewN n ∧ Hid (rs.take k = qs.take k)) (fun i _ => qs.length - (intOf i).toNat)
    case atStart => exact ⟨0, 0, Nat.zero_le _, rfl, rfl, rfl⟩
    case round =>
      obtain ⟨k, n, hk, rfl, rfl, hpre⟩ := hrel
      by_cases hgo : k < qs.length
      · obtain ⟨⟨kd, d⟩, hki⟩ : ∃ r, rs[k]? = some r := ⟨_, List.getElem?_eq_getElem (by omega)⟩
        obtain ⟨⟨kd2, d2⟩, hki2⟩ : ∃ r, qs[k]? = some r := ⟨_, List.getElem?_eq_getElem hgo⟩
        obtain ⟨b, o, rfl, hlt, c0, c1⟩ := h.at_ hki
        obtain ⟨b2, o2, rfl, hlt2, c2, c3⟩ := h'.at_ hki2
        have hci : (0 : Int) ≤ (k : Int) := by omega
        have hci2 : (k : Int) < rs.length := by omega
        have hci3 : (k : Int) < qs.length := by omega
        by_cases heq : kd = kd2 ∧ d = d2
        · obtain ⟨rfl, rfl⟩ := heq
          have hst : Hid (rs.take (k + 1) = qs.take (k + 1)) := by
            have := hpre.out
            show rs.take (k + 1) = qs.take (k + 1)
            rw [List.take_add_one, List.take_add_one, hki, hki2, this]
          clear hki hki2
          go_wp2_with fail
          go_quiet (fail)
          go_wp2_with fail
          go_roundw
          case rel => exact ⟨k + 1, n + nq, by omega, by go_num, rfl, hst⟩
          case measure => simp [intOf]; omega
        · have hst := Lib.hid (hres.out k hk hpre.out _ _ hki hki2 (fun e => heq (by injection e with e1 e2; exact ⟨e1, e2⟩)))
          clear hki hki2
          by_cases hkd : kd = kd2
          · subst hkd
            have hd1 : ¬ d = d2 := fun e => heq ⟨rfl, e⟩
            have hd2 : (d == d2) = false := by simpa using hd1
            clear heq
            go_wp2_with fail
            go_quiet (fail)
            go_wp2_with fail
            go_ret
            exact ⟨by rw [hst.out]; rfl, n + nq, by simp⟩
          · have hk1 : ¬ kd.toNat = kd2.toNat := fun e => hkd (UInt8.toNat_inj.1 e)
            have hk2 : ¬ (kd.toNat : Int) = kd2.toNat := by omega
            clear heq
            go_wp2_with fail
            go_quiet (fail)
            go_wp2_with fail
            go_ret
            exact ⟨by rw [hst.out]; rfl, n + nq, by simp⟩
      · have hke : k = qs.length := by omega
        subst hke
        have h0 := Lib.hid (hall.out hpre.out)
        clear hgo
        go_wp2_with fail
        go_ret
        exact ⟨by rw [h0.out]; rfl, n, rfl⟩
  · have hR : decide (rs = qs) = false := decide_eq_false (fun e => hl (by rw [e]))
    rw [hR]
    clear hR
    have hl2 : ¬ (rs.length : Int) = qs.length := by omega
    go_enter Tryz.func38, Tryz.ntmps38
    go_wp2_with fail
    go_ret
    exact ⟨rfl, 0, rfl⟩

set_option maxHeartbeats 2000000 in
set_option maxRecDepth 10000 in
theorem rNumber_any (s : List UInt8) (w : World) (hs : s.length ≤ maxLen) : Calls Tryz.prog 62 #[.string (bs s)] w (fun e w' => e = .returned (.int .i64 (Wal.refNum s : Nat)) ∧ w = w') := by
  unfold maxLen at hs
  have hsz : (bs s).size = s.length := bs_size s
  by_cases h1 : s.length < 12
  · have hz := refNum_bad (.inl h1)
    rw [hz]
    clear hz
    go_enter Tryz.func62, Tryz.ntmps62
    go_wp2_with fail
    go_ret
    exact ⟨rfl, rfl⟩
  by_cases h2 : 17 < s.length
  · have hz := refNum_bad (.inr (.inl h2))
    rw [hz]
    clear hz
    go_enter Tryz.func62, Tryz.ntmps62
    go_wp2_with fail
    go_ret
    exact ⟨rfl, rfl⟩
  have hs1 : ∀ w, (Instr.slice 9 (.string (bs s)) none (some (.int .i64 4)) none).run Tryz.prog w = .ok (.string (bs (s.take 4))) w := slice_to (P := Tryz.prog) Tryz.underlying9 s 4 (by omega)
  by_cases h3 : s.take 4 = pre
  · have h4 : bs (s.take 4) = { data := #[119, 97, 108, 45] } := by rw [h3]; rfl
    have HS1 := Lib.hid hs1
    have hs2 : ∀ w, (Instr.slice 9 (.string (bs s)) none (some (.int .i64 4)) none).run Tryz.prog w = .ok (.string { data := #[119, 97, 108, 45] }) w := fun w => by rw [HS1.out, h4]
    clear hs1 HS1 h4
    obtain ⟨c4, hc4⟩ : ∃ c, s[4]? = some c := ⟨_, List.getElem?_eq_getElem (by omega)⟩
    have hg4 : s.getD 4 0 = c4 := by rw [List.getD_eq_getElem?_getD, hc4]; rfl
    have hi4 : ∀ w, (Instr.index 9 (.string (bs s)) (.int .i64 4)).run Tryz.prog w = .ok (.int .u8 (c4.toNat : Int)) w := fun w => index_bs Tryz.underlying9 .i64 s 4 4 c4 rfl hc4 w
    by_cases h5 : 12 < s.length ∧ c4 = 48
    · obtain ⟨h5, rfl⟩ := h5
      have hz := refNum_bad (.inr (.inr (.inr ⟨h5, hg4⟩)))
      rw [hz]
      replace hi4 : ∀ w, (Instr.index 9 (.string (bs s)) (.int .i64 4)).run Tryz.prog w = .ok (.int .u8 48) w := hi4
      clear hz hc4 hg4
      go_enter Tryz.func62, Tryz.ntmps62
      go_wp2_with fail
      go_ret
      exact ⟨rfl, rfl⟩
    have hnb : ¬ (s.length < 12 ∨ 17 < s.length ∨ s.take 4 ≠ pre ∨ (12 < s.length ∧ s.getD 4 0 = 48)) := by
      rw [hg4]
      rintro (e | e | e | e)
      · exact h1 e
      · exact h2 e
      · exact e h3
      · exact h5 e
    have hbad : ∀ (i : Nat) (c : UInt8), s[i]? = some c → 4 ≤ i → ¬ isD c → refNum s = 0 := fun i c hi h4 hn => refNum_not (fun hh => hn (hh c (List.mem_iff_getElem?.2 ⟨i - 4, by rw [List.getElem?_drop, show 4 + (i - 4) = i by omega]; exact hi⟩)))
    have hyes := fun hd => refNum_yes hnb hd
    obtain ⟨R, hR⟩ : ∃ R, R = refNum s := ⟨_, rfl⟩
    rw [← hR]
    simp only [← hR] at hbad hyes
    have HBAD := Lib.hid hbad
    have HYES := Lib.hid hyes
    have h12 : 12 ≤ s.length := by omega
    have h17 : s.length ≤ 17 := by omega
    have hor : s.length = 12 ∨ 12 < s.length := by omega
    clear hnb hbad hyes hR h3 hg4 hc4 hs
    have main : ∀ w, Calls Tryz.prog 62 #[.string (bs s)] w (fun e w' => e = .returned (.int .i64 (R : Nat)) ∧ w = w') := fun w => by
      rcases hor with h6 | h6
      all_goals
        have h7 : 12 < s.length → ¬ (c4.toNat : Int) = 48 := fun h e => h5 ⟨h, UInt8.toNat_inj.1 (show c4.toNat = 48 by omega)⟩
        have h8 := Lib.hid h7
        try (have h9 : ((c4.toNat : Int) == 48) = false := by simpa using h8.out h6)
        clear h5 h7
        go_enter Tryz.func62, Tryz.ntmps62
        go_wp2_with fail
        go_loopw [3, 4] (fun n i wr => ∃ k m : Nat, 4 ≤ k ∧ k ≤ s.length ∧ i = .int .i64 k ∧ n = .int .i64 m ∧ wr = w ∧ m < 10 ^ (k - 4) ∧ Hid (m = dval 0 ((s.take k).drop 4) ∧ ∀ c ∈ (s.take k).drop 4, isD c)) (fun _ i _ => s.length - (intOf i).toNat)
        case atStart => exact ⟨4, 0, Nat.le_refl _, by omega, rfl, rfl, rfl, by simp, Lib.hid ⟨by rw [List.drop_eq_nil_of_le (by rw [List.length_take]; omega)]; rfl, fun c hc => by rw [List.drop_eq_nil_of_le (by rw [List.length_take]; omega)] at hc; cases hc⟩⟩
        case round =>
          obtain ⟨k, m, hk4, hk, rfl, rfl, rfl, hm, hI⟩ := hrel
          have hm2 : m < 10000000000000 := Nat.lt_of_lt_of_le hm (Nat.pow_le_pow_right (by decide) (by omega) : 10 ^ (k - 4) ≤ 10 ^ 13)
          by_cases hgo : k < s.length
          · obtain ⟨c, hc⟩ : ∃ c, s[k]? = some c := ⟨_, List.getElem?_eq_getElem hgo⟩
            have hik : ∀ w, (Instr.index 9 (.string (bs s)) (.int .i64 k)).run Tryz.prog w = .ok (.int .u8 (c.toNat : Int)) w := fun w => index_bs Tryz.underlying9 .i64 s k k c rfl hc w
            have hcl := c.toNat_lt
            by_cases hlo : c.toNat < 48
            · have hz := HBAD.out k c hc hk4 (fun h => by have := h.1; omega)
              clear hc hI hm
              go_wp2_with fail
              go_ret
              exact ⟨by first | rfl | (rw [hz]; rfl), rfl⟩
            by_cases hhi : 57 < c.toNat
            · have hz := HBAD.out k c hc hk4 (fun h => by have := h.2; omega)
              clear hc hI hm
              go_wp2_with fail
              go_ret
              exact ⟨by first | rfl | (rw [hz]; rfl), rfl⟩
            have htk : (s.take (k + 1)).drop 4 = (s.take k).drop 4 ++ [c] := by
              rw [List.take_add_one, hc, List.drop_append_of_le_length (by rw [List.length_take]; omega)]; rfl
            have hI2 : Hid (10 * m + (c.toNat - 48) = dval 0 ((s.take (k + 1)).drop 4) ∧ ∀ c ∈ (s.take (k + 1)).drop 4, isD c) := by
              rw [htk]
              refine Lib.hid ⟨by rw [dval_snoc, ← hI.out.1], fun x hx => ?_⟩
              rcases List.mem_append.1 hx with hx | hx
              · exact hI.out.2 x hx
              · obtain rfl := List.mem_singleton.1 hx
                exact ⟨by omega, by omega⟩
            have hm3 : 10 * m + (c.toNat - 48) < 10 ^ (k + 1 - 4) := by
              rw [show k + 1 - 4 = (k - 4) + 1 by omega, Nat.pow_succ]; omega
            have HM3 := Lib.hid hm3
            clear hc htk hI hm hm3
            go_wp2_with fail
            go_roundw
            case rel => exact ⟨k + 1, 10 * m + (c.toNat - 48), by omega, by omega, by go_num, by go_num, trivial, HM3.out, hI2⟩
            case measure => simp [intOf]; omega
          · obtain rfl : k = s.length := by omega
            rw [List.take_length] at hI
            have hz := HYES.out hI.out.2
            rw [← hI.out.1] at hz
            have HZ := Lib.hid hz
            clear hz hI hm hgo
            by_cases hbig : 1099511627776 < m
            · go_wp2_with fail
              go_ret
              exact ⟨by rw [HZ.out, if_pos hbig]; rfl, rfl⟩
            · go_wp2_with fail
              go_ret
              exact ⟨by rw [HZ.out, if_neg hbig]; rfl, rfl⟩
    exact main w
  · have hz := refNum_bad (.inr (.inr (.inl h3)))
    rw [hz]
    have h4 : ¬ bs (s.take 4) = { data := #[119, 97, 108, 45] } := fun e => h3 (congrArg (fun b : ByteArray => b.data.toList) e)
    clear hz
    go_enter Tryz.func62, Tryz.ntmps62
    go_wp2_with fail
    go_ret
    exact ⟨rfl, rfl⟩
end Go.Proofs.YtcopknopifbebaaGreatDoor

namespace Go.Bar.Wal
open Go.RowKit Go.Bar Go.Bar.Leb Go.Bar.Frm

theorem segN_d10 (n : Nat) : segN n = pre ++ d10 ((segN n).length - 4) n := by
  have hpl : pre.length = 4 := rfl
  have h1 := lt_dec n
  have h0 : 0 < (Lib.decDigits n).length := by
    rcases Nat.eq_zero_or_pos (Lib.decDigits n).length with h | h
    · have h2 := (dec_digits n).2.1
      rw [List.eq_nil_of_length_eq_zero h] at h2
      have h2 : 0 = n := h2
      subst h2
      rw [Lib.decDigits] at h
      cases h
    · exact h
  have hl : (segN n).length - 4 = max 8 (Lib.decDigits n).length := by
    unfold segN
    rw [List.length_append, List.length_append, List.length_replicate, hpl]; omega
  obtain ⟨m, hm⟩ : ∃ m, max 8 (Lib.decDigits n).length = m + 1 := ⟨max 8 (Lib.decDigits n).length - 1, by omega⟩
  have h2 : n < 10 ^ (m + 1) := Nat.lt_of_lt_of_le h1 (Nat.pow_le_pow_right (by decide) (by omega))
  have h3 := (pad_d10 m n h2).2
  rw [hl, hm, ← h3]
  unfold segN
  rw [show 8 - (Lib.decDigits n).length = m + 1 - (Lib.decDigits n).length by omega]
theorem segN_bound (n : Nat) : n < 10 ^ ((segN n).length - 4) := by
  have h1 := lt_dec n
  have hpl : pre.length = 4 := rfl
  have hl : (Lib.decDigits n).length ≤ (segN n).length - 4 := by
    unfold segN
    rw [List.length_append, List.length_append, List.length_replicate, hpl]; omega
  exact Nat.lt_of_lt_of_le h1 (Nat.pow_le_pow_right (by decide) hl)
theorem segN_low {n m : Nat} (h : (segN n).length = 4 + (m + 1)) (hm : 8 ≤ m) : 10 ^ m ≤ n := by
  rcases Nat.lt_or_ge n (10 ^ m) with h1 | h1
  · obtain ⟨k, hk⟩ : ∃ k, m = k + 1 := ⟨m - 1, by omega⟩
    have h2 := dec_len (n := n) (m := k) (by rw [← hk]; exact h1)
    have hpl : pre.length = 4 := rfl
    unfold segN at h
    rw [List.length_append, List.length_append, List.length_replicate, hpl] at h
    omega
  · exact h1
theorem segN_lt2 {a b : Nat} (h : a < b) (hl : (segN a).length = (segN b).length) : segN a < segN b := by
  rw [segN_d10 a, segN_d10 b, hl]
  exact append_lt_append (d10_lt _ _ _ h (segN_bound b))
theorem segN_wide {a b : Nat} (h : (segN a).length < (segN b).length) (h12 : 12 ≤ (segN a).length) : a < b := by
  obtain ⟨m, hm⟩ : ∃ m, (segN b).length = 4 + (m + 1) := ⟨(segN b).length - 5, by omega⟩
  have h1 := segN_low hm (by omega)
  have h2 := segN_bound a
  have h3 : 10 ^ ((segN a).length - 4) ≤ 10 ^ m := Nat.pow_le_pow_right (by decide) (by omega)
  omega
theorem numN_seg2 {s : Nm} (h : 0 < numN s) : segN (numN s) = s := by
  unfold numN at h ⊢
  split at h
  · rename_i e; rw [if_pos e]; exact e
  · cases h
theorem numN_len {s : Nm} (h : 0 < numN s) : 12 ≤ s.length ∧ s.length ≤ 17 := by
  have h1 : 0 < refNum s := by rw [refNum_eq]; exact h
  unfold refNum at h1
  split at h1
  · cases h1
  · rename_i hc
    simp only [not_or, Nat.not_lt] at hc
    exact ⟨hc.1, hc.2.1⟩
theorem numN_pre {s : Nm} (h : 0 < numN s) : pre.isPrefixOf s = true := by
  rw [← numN_seg2 h]; exact segN_pre _

def refFs (fs : Fs) : Fs := (List.range' 12 6).flatMap fun wide => fs.filter fun p => decide (p.1.length = wide ∧ 0 < refNum p.1)
def refAll (fs : Fs) : List Rc := (refFs fs).flatMap fun p => recs p.2.s
theorem refFs_mem {fs : Fs} {p : Nm × Fi} : p ∈ refFs fs ↔ p ∈ fs ∧ 0 < numN p.1 := by
  unfold refFs
  rw [List.mem_flatMap]
  constructor
  · rintro ⟨w, _, hp⟩
    rw [List.mem_filter] at hp
    have h := of_decide_eq_true hp.2
    rw [refNum_eq] at h
    exact ⟨hp.1, h.2⟩
  · rintro ⟨hp, hn⟩
    have hl := numN_len hn
    refine ⟨p.1.length, ?_, ?_⟩
    · rw [List.mem_range']
      exact ⟨p.1.length - 12, by omega, by omega⟩
    · rw [List.mem_filter]
      exact ⟨hp, decide_eq_true ⟨rfl, by rw [refNum_eq]; exact hn⟩⟩
theorem refFs_rise {fs : Fs} (h : Srt fs) : (refFs fs).Pairwise (fun p q => numN p.1 < numN q.1) := by
  unfold refFs
  rw [List.pairwise_flatMap]
  refine ⟨fun w _ => ?_, ?_⟩
  · have hs : (fs.filter fun p => decide (p.1.length = w ∧ 0 < refNum p.1)).Pairwise (fun a b => a.1 < b.1) := h.sublist List.filter_sublist
    refine List.Pairwise.imp_of_mem (fun {p q} hp hq hlt => ?_) hs
    have h1 := of_decide_eq_true (List.mem_filter.1 hp).2
    have h2 := of_decide_eq_true (List.mem_filter.1 hq).2
    rw [refNum_eq] at h1 h2
    have e1 := numN_seg2 h1.2
    have e2 := numN_seg2 h2.2
    rcases Nat.lt_trichotomy (numN p.1) (numN q.1) with h3 | h3 | h3
    · exact h3
    · rw [h3, e2] at e1
      rw [e1] at hlt
      exact absurd hlt (List.lt_irrefl _)
    · have h4 := segN_lt2 h3 (by rw [e1, e2, h1.1, h2.1])
      rw [e1, e2] at h4
      exact absurd (List.lt_trans hlt h4) (List.lt_irrefl _)
  · have hr : (List.range' 12 6).Pairwise (fun a b => a < b) := List.pairwise_lt_range'
    refine List.Pairwise.imp (fun {a b} hab p hp q hq => ?_) hr
    have h1 := of_decide_eq_true (List.mem_filter.1 hp).2
    have h2 := of_decide_eq_true (List.mem_filter.1 hq).2
    rw [refNum_eq] at h1 h2
    have e1 := numN_seg2 h1.2
    have e2 := numN_seg2 h2.2
    refine segN_wide (by rw [e1, e2, h1.1, h2.1]; exact hab) (by rw [e1]; exact (numN_len h1.2).1)
theorem rise_eq : ∀ {l m : List Nat}, l.Pairwise (· < ·) → m.Pairwise (· < ·) → (∀ x, x ∈ l ↔ x ∈ m) → l = m
  | [], [], _, _, _ => rfl
  | [], b :: m, _, _, h => absurd ((h b).2 (List.mem_cons_self ..)) (by simp)
  | a :: l, [], _, _, h => absurd ((h a).1 (List.mem_cons_self ..)) (by simp)
  | a :: l, b :: m, hl, hm, h => by
    obtain ⟨h1, h2⟩ := List.pairwise_cons.1 hl
    obtain ⟨h3, h4⟩ := List.pairwise_cons.1 hm
    have hab : a = b := by
      rcases List.mem_cons.1 ((h a).1 (List.mem_cons_self ..)) with e | e
      · exact e
      · rcases List.mem_cons.1 ((h b).2 (List.mem_cons_self ..)) with e2 | e2
        · exact e2.symm
        · have := h3 a e; have := h1 b e2; omega
    subst hab
    rw [rise_eq h2 h4 fun x => ?_]
    have hx := h x
    rw [List.mem_cons, List.mem_cons] at hx
    constructor
    · intro hm'
      rcases hx.1 (.inr hm') with e | e
      · subst e; exact absurd (h1 x hm') (Nat.lt_irrefl _)
      · exact e
    · intro hm'
      rcases hx.2 (.inr hm') with e | e
      · subst e; exact absurd (h3 x hm') (Nat.lt_irrefl _)
      · exact e
theorem segs_mem {d : Ds} {n : Nat} : n ∈ segsOf d ↔ ∃ p ∈ d.fs, numN p.1 = n ∧ 0 < n := by
  unfold segsOf Ds.list
  rw [List.mem_mergeSort, List.mem_filter, List.mem_map]
  constructor
  · rintro ⟨⟨s, hs, rfl⟩, hn⟩
    obtain ⟨p, hp, rfl⟩ := List.mem_map.1 (List.mem_filter.1 hs).1
    exact ⟨p, hp, rfl, of_decide_eq_true hn⟩
  · rintro ⟨p, hp, rfl, hn⟩
    exact ⟨⟨p.1, List.mem_filter.2 ⟨List.mem_map_of_mem hp, numN_pre hn⟩, rfl⟩, decide_eq_true hn⟩
theorem numN_inj {s t : Nm} (h : 0 < numN s) (e : numN s = numN t) : s = t := by
  rw [← numN_seg2 h, e, numN_seg2 (by omega)]
theorem segs_rise {d : Ds} (h : Srt d.fs) : (segsOf d).Pairwise (· < ·) := by
  have h1 : (segsOf d).Pairwise (fun a b => decide (a ≤ b) = true) := List.pairwise_mergeSort (fun a b c h1 h2 => by simp at *; omega) (fun a b => by simp; omega) _
  have h2 : (segsOf d).Nodup := by
    unfold segsOf
    rw [(List.mergeSort_perm _ _).nodup_iff]
    unfold Ds.list
    have hn : d.fs.Pairwise (fun a b => a.1 ≠ b.1) := h.imp fun hab e => by rw [e] at hab; exact List.lt_irrefl _ hab
    have hn2 : ((d.fs.map (·.1)).filter fun n => pre.isPrefixOf n).Nodup := List.Nodup.sublist List.filter_sublist (by rw [List.nodup_iff_pairwise_ne, List.pairwise_map]; exact hn)
    generalize ((d.fs.map (·.1)).filter fun n => pre.isPrefixOf n) = l at hn2
    induction l with
    | nil => exact List.nodup_nil
    | cons x l ih =>
      obtain ⟨h3, h4⟩ := List.nodup_cons.1 hn2
      rw [List.map_cons, List.filter_cons]
      split
      · rename_i hx
        refine List.nodup_cons.2 ⟨fun hm => h3 ?_, ih h4⟩
        obtain ⟨y, hy, e⟩ := List.mem_map.1 (List.mem_filter.1 hm).1
        rw [numN_inj (of_decide_eq_true hx) e.symm]
        exact hy
      · exact ih h4
  rw [List.nodup_iff_pairwise_ne] at h2
  exact (h1.and h2).imp fun ⟨a, b⟩ => by have := of_decide_eq_true a; omega
theorem segs_eq {d : Ds} (h : Srt d.fs) : segsOf d = (refFs d.fs).map fun p => numN p.1 := by
  refine rise_eq (segs_rise h) (by rw [List.pairwise_map]; exact refFs_rise h) fun n => ?_
  rw [segs_mem, List.mem_map]
  constructor
  · rintro ⟨p, hp, rfl, hn⟩
    exact ⟨p, refFs_mem.2 ⟨hp, hn⟩, rfl⟩
  · rintro ⟨p, hp, rfl⟩
    obtain ⟨h1, h2⟩ := refFs_mem.1 hp
    exact ⟨p, h1, rfl, h2⟩
theorem segs_read {d : Ds} (h : Srt d.fs) : (segsOf d).flatMap (fun n => recs (d.read (segN n)).1) = refAll d.fs := by
  rw [segs_eq h, List.flatMap_map]
  unfold refAll
  have : ∀ l : Fs, (∀ p ∈ l, p ∈ refFs d.fs) → (l.flatMap fun p => recs (d.read (segN (numN p.1))).1) = l.flatMap fun p => recs p.2.s := by
    intro l hl
    induction l with
    | nil => rfl
    | cons p l ih =>
      obtain ⟨h1, h2⟩ := refFs_mem.1 (hl p (List.mem_cons_self ..))
      rw [List.flatMap_cons, List.flatMap_cons, ih fun q hq => hl q (List.mem_cons_of_mem _ hq), numN_seg2 h2]
      congr 2
      unfold Ds.read
      rw [h.fnd (show (p.1, p.2) ∈ d.fs from h1)]
  exact this _ fun _ h => h
end Go.Bar.Wal

namespace Go.Bar.Wal
open Go.RowKit Go.Bar

def fiV (f : Fi) : Value := .agg #[.string (bs f.s), .int .i64 (f.sure : Nat)]
def fiD (f : Fi) : DataW Unit := .agg [.lit (.string f.s), .lit (.int .i64 (f.sure : Nat))]
theorem fiV_inj {f g : Fi} (h : fiV f = fiV g) : f = g := by
  unfold fiV at h
  injection h with h
  have h1 := congrArg (fun x : Array Value => x[0]?) h
  have h2 := congrArg (fun x : Array Value => x[1]?) h
  simp only [List.getElem?_toArray, List.getElem?_cons_zero, List.getElem?_cons_succ, Option.some.injEq, Value.string.injEq, Value.int.injEq, true_and] at h1 h2
  have h3 := congrArg (fun x : ByteArray => x.data.toList) h1
  obtain ⟨s, a⟩ := f
  obtain ⟨s2, a2⟩ := g
  have e1 : s = s2 := by simpa [bs] using h3
  have e2 : a = a2 := by exact Int.ofNat.inj h2
  rw [e1, e2]
theorem fiD_inj {f g : Fi} (h : fiD f = fiD g) : f = g := by
  unfold fiD at h
  simp only [DataW.agg.injEq, List.cons.injEq, DataW.lit.injEq, Lit.string.injEq, Lit.int.injEq, true_and, and_true] at h
  obtain ⟨s, a⟩ := f
  obtain ⟨s2, a2⟩ := g
  obtain ⟨h1, h2⟩ := h
  have e2 : a = a2 := by exact Int.ofNat.inj h2
  simp only at h1
  rw [h1, e2]
open Classical in
noncomputable def fileR (v : Value) : Option (DataW Unit × List MemPlace) := if h : ∃ f, v = fiV f then some (fiD (Classical.choose h), []) else none
theorem fileR_of (f : Fi) : fileR (fiV f) = some (fiD f, []) := by
  unfold fileR
  have h : ∃ g, fiV f = fiV g := ⟨f, rfl⟩
  rw [dif_pos h, fiV_inj (Classical.choose_spec h).symm]
theorem fileR_inv {v : Value} {f : Fi} {ps : List MemPlace} (h : fileR v = some (fiD f, ps)) : v = fiV f := by
  unfold fileR at h
  by_cases hx : ∃ g, v = fiV g
  · rw [dif_pos hx] at h
    injection h with h
    injection h with h1 _
    rw [← fiD_inj h1]
    exact Classical.choose_spec hx
  · rw [dif_neg hx] at h
    cases h
def dOf (fs : Fs) : DataW Unit := .map (fs.map fun p => (ky p.1, fiD p.2))
theorem before_eq : ∀ (x y : List UInt8), bytesBefore x y = decide (x < y)
  | [], [] => by simp [bytesBefore]
  | [], b :: y => by simp [bytesBefore]
  | a :: x, [] => by simp [bytesBefore]
  | a :: x, b :: y => by
    rw [bytesBefore, before_eq x y]
    rw [Bool.eq_iff_iff]
    simp only [Bool.or_eq_true, decide_eq_true_eq, Bool.and_eq_true, beq_iff_eq, List.cons_lt_cons_iff]
theorem same_key (a b : List UInt8) : (ky a).sameKey (ky b) = decide (a = b) := by
  show (a == b) = _
  rw [Bool.eq_iff_iff]; simp
theorem filter_key (fs : Fs) (n : Nm) : ((fs.map fun p => (ky p.1, fiD p.2)).filter fun p => !p.1.sameKey (ky n)) = (fdel fs n).map fun p => (ky p.1, fiD p.2) := by
  induction fs with
  | nil => rfl
  | cons p r ih =>
    obtain ⟨m, g⟩ := p
    rw [List.map_cons, List.filter_cons, same_key, ih]
    show _ = (if m = n then fdel r n else (m, g) :: fdel r n).map _
    by_cases h : m = n
    · rw [if_pos h, decide_eq_true h]; rfl
    · rw [if_neg h, decide_eq_false h]; rfl
theorem dOf_del (fs : Fs) (n : Nm) : (dOf fs).del (ky n) = dOf (fdel fs n) := by
  unfold dOf
  show DataW.map _ = _
  rw [filter_key]
theorem insert_map (r : Fs) (n : Nm) (f : Fi) : ∀ (l : Fs), l = r → (∀ p ∈ l, p.1 ≠ n) → DataW.insert (ky n, fiD f) (l.map fun p => (ky p.1, fiD p.2)) = (fput l n f).map fun p => (ky p.1, fiD p.2) := by
  intro l hl hne
  clear hl
  induction l with
  | nil => rfl
  | cons p l ih =>
    obtain ⟨m, g⟩ := p
    rw [List.map_cons, DataW.insert]
    have hm : m ≠ n := hne _ (List.mem_cons_self ..)
    unfold fput
    rw [if_neg hm]
    have hb : (ky n).before (ky m) = decide (n < m) := before_eq n m
    show (if (ky n).before (ky m) = true then _ else _) = _
    rw [hb]
    by_cases h : n < m
    · rw [if_pos (decide_eq_true h), if_pos h]; rfl
    · rw [if_neg (by simpa using h), if_neg h, List.map_cons, ih fun q hq => hne q (List.mem_cons_of_mem _ hq)]
theorem put_del {fs : Fs} (h : Srt fs) (n : Nm) (f : Fi) : fput (fdel fs n) n f = fput fs n f := by
  induction fs with
  | nil => rfl
  | cons p r ih =>
    obtain ⟨m, g⟩ := p
    have h2 := (List.pairwise_cons.1 h).2
    unfold fdel
    by_cases e : m = n
    · rw [if_pos e]
      have hno : fdel r n = r := by
        have : ∀ l : Fs, (∀ q ∈ l, q.1 ≠ n) → fdel l n = l := fun l hl => by
          induction l with
          | nil => rfl
          | cons q l ih2 =>
            obtain ⟨a, b⟩ := q
            unfold fdel
            rw [if_neg (hl _ (List.mem_cons_self ..)), ih2 fun x hx => hl x (List.mem_cons_of_mem _ hx)]
        refine this r fun q hq e2 => ?_
        have := (List.pairwise_cons.1 h).1 q hq
        rw [e2, e] at this
        exact List.lt_irrefl _ this
      rw [hno]
      conv => rhs; unfold fput
      rw [if_pos e]
      cases r with
      | nil => rfl
      | cons q l =>
        obtain ⟨a, b⟩ := q
        have h3 := (List.pairwise_cons.1 h).1 (a, b) (List.mem_cons_self ..)
        rw [e] at h3
        unfold fput
        rw [if_neg (fun e2 => by rw [e2] at h3; exact List.lt_irrefl _ h3), if_pos h3]
    · rw [if_neg e]
      conv => lhs; unfold fput
      conv => rhs; unfold fput
      rw [if_neg e, if_neg e]
      by_cases e2 : n < m
      · rw [if_pos e2, if_pos e2]
        have hno : fdel r n = r := by
          have : ∀ l : Fs, (∀ q ∈ l, q.1 ≠ n) → fdel l n = l := fun l hl => by
            induction l with
            | nil => rfl
            | cons q l ih2 =>
              obtain ⟨a, b⟩ := q
              unfold fdel
              rw [if_neg (hl _ (List.mem_cons_self ..)), ih2 fun x hx => hl x (List.mem_cons_of_mem _ hx)]
          refine this r fun q hq e3 => ?_
          have := (List.pairwise_cons.1 h).1 q hq
          rw [e3] at this
          exact List.lt_irrefl _ (List.lt_trans e2 this)
        rw [hno]
      · rw [if_neg e2, if_neg e2, ih h2]
theorem dOf_put {fs : Fs} (h : Srt fs) (n : Nm) (f : Fi) : (dOf fs).put (ky n) (fiD f) = dOf (fput fs n f) := by
  unfold dOf
  show DataW.map (DataW.insert _ _) = _
  rw [filter_key, insert_map (fdel fs n) n f _ rfl, put_del h]
  intro p hp e
  have := fnd_del fs n n
  rw [if_pos rfl] at this
  have h2 := fnd_some_iff.2 (List.mem_map_of_mem hp : p.1 ∈ (fdel fs n).map (·.1))
  rw [e, this] at h2
  cases h2
theorem dOf_has (fs : Fs) (n : Nm) : Maps.has (dOf fs) (ky n) = (fnd fs n).isSome := by
  unfold dOf
  rw [Maps.has_eq]
  induction fs with
  | nil => rfl
  | cons p r ih =>
    obtain ⟨m, g⟩ := p
    rw [List.map_cons, List.any_cons, same_key, ih]
    show _ = (if m = n then some g else fnd r n).isSome
    by_cases h : m = n
    · rw [if_pos h]; simp [h]
    · rw [if_neg h]; simp [h]
theorem dOf_at (fs : Fs) (n : Nm) : (dOf fs).atKey (ky n) (fiD Fi.z) = fiD ((fnd fs n).getD Fi.z) := by
  unfold dOf DataW.atKey
  simp only
  induction fs with
  | nil => rfl
  | cons p r ih =>
    obtain ⟨m, g⟩ := p
    rw [List.map_cons, List.find?_cons, same_key]
    show _ = fiD ((if m = n then some g else fnd r n).getD Fi.z)
    by_cases h : m = n
    · rw [if_pos h]; simp [h]
    · rw [if_neg h]; simp only [h, decide_false]; exact ih

def FmAt (P : Program) (k : TypeId) (w : World) (b : Nat) (fs : Fs) : Prop := w.ownsMap P k fileR b fs.length (dOf fs)
structure FmTy (P : Program) (t k e : TypeId) : Prop where
  map : P.underlying t = some (.map k e)
  key : P.underlying k = some .string
  zero : ∀ w, (zeroValue e).run P w = .ok (fiV Fi.z) w
section
variable {P : Program} {t k e : TypeId} {w w' : World} {b n : Nat} {fs : Fs}
theorem owns_size {R : Value → Option (DataW Unit × List MemPlace)} {D : DataW Unit} (h : w.ownsMap P k R b n D) {m : Nat} (hm : Maps.size D ≤ m) : w.ownsMap P k R b m D := by
  obtain ⟨es, clock, hb, F, _, rfl⟩ := h
  refine ⟨es, clock, hb, F, ?_, rfl⟩
  rw [Maps.size_eq] at hm
  exact Nat.le_trans (Nat.le_of_eq (length_read es).symm) hm
theorem FmAt.lt (h : FmAt P k w b fs) : b < w.heap.size := World.ownsMap.lt h
theorem FmAt.block (h : FmAt P k w b fs) (hb : w'.heap[b]? = w.heap[b]?) : FmAt P k w' b fs := by
  obtain ⟨es, clock, h1, h2, h3, h4⟩ := h
  exact ⟨es, clock, hb.trans h1, h2, h3, h4⟩
theorem FmAt.below (h : FmAt P k w b fs) (hb : Below w.heap.size w w') : FmAt P k w' b fs := h.block (hb.block b h.lt)
theorem FmAt.is_map (h : FmAt P k w b fs) : ∃ es clock, w.heap[b]? = some (.map es clock) := by
  obtain ⟨es, clock, h1, _⟩ := h
  exact ⟨es, clock, h1⟩
theorem FmAt.fr {S : Nat → Nat → Prop} (h : FmAt P k w b fs) (hf : Fr S w w') : FmAt P k w' b fs := by
  refine h.block ?_
  rcases hf.blk b h.lt with h1 | ⟨c, c', e', fr, h1, _⟩
  · exact h1
  · obtain ⟨es, clock, h2⟩ := h.is_map
    rw [h2] at h1
    cases h1
theorem FmAt.set (h : FmAt P k w b fs) (k' i : Nat) (u : Value) : FmAt P k (w.setCell ⟨k', i, none⟩ u) b fs := h.fr ((Fr.refl (fun _ _ => True) w).setCell (fun _ => trivial) u)
theorem FmAt.made (w : World) (P : Program) (k : TypeId) : FmAt P k (w.alloc (.map #[] 0)) w.heap.size [] := World.ownsMap_made w P k fileR
theorem FmAt.look (h : FmAt P k w b fs) (T : FmTy P t k e) (l : List UInt8) (hl : l.length ≤ maxLen) : (Instr.lookup t (.map (some b)) (.string (bs l)) false).run P w = .ok (fiV ((fnd fs l).getD Fi.z)) w := by
  obtain ⟨v, ps, hr, hv⟩ := World.ownsMap.lookup h (Maps.string_keyed T.key) T.map (T.zero w) (fileR_of Fi.z) (key_of T.key l hl)
  rw [dOf_at] at hv
  rw [← fileR_inv hv]
  exact hr
theorem FmAt.look_ok (h : FmAt P k w b fs) (T : FmTy P t k e) (l : List UInt8) (hl : l.length ≤ maxLen) : (Instr.lookup t (.map (some b)) (.string (bs l)) true).run P w = .ok (.tuple #[fiV ((fnd fs l).getD Fi.z), .bool (fnd fs l).isSome]) w := by
  obtain ⟨v, ps, hr, hv⟩ := World.ownsMap.look_ok h (Maps.string_keyed T.key) T.map (T.zero w) (fileR_of Fi.z) (key_of T.key l hl)
  rw [dOf_at] at hv
  rw [← fileR_inv hv, ← dOf_has]
  exact hr
end
section
variable {P : Program} (w : World) {ops : Array Oper} {rest : List Oper} {o : Oper} {a : Act} {Q : Exit → Act → World → Prop}
end
end Go.Bar.Wal

namespace Go.Bar.Wal
open Go.RowKit Go.Bar Go.Bar.Leb Go.Bar.Frm

def wAppend (d : Ds) (g : Lg) (rs : List Rc) : Nat × Ds × Lg :=
  if g.broken = true then (9, d, g) else if laid rs = [] then (0, d, g) else if d.free < (laid rs).length then (7, d, g)
  else
    let g1 : Lg := if 0 < g.size ∧ g.limit - (laid rs).length < g.size then ⟨g.limit, g.seg + 1, 0, g.broken⟩ else g
    let r := d.append (segN g1.seg) (laid rs)
    if r.1 ≠ 0 then (r.1, r.2, ⟨g1.limit, g1.seg, g1.size, r.1 == 8⟩)
    else
      let q := r.2.sync (segN g1.seg)
      (q.1, q.2, ⟨g1.limit, g1.seg, g1.size + (laid rs).length, q.1 == 8⟩)

section
variable {fs : Fs} {ns : List Nat} {A : Nat → List Rc} {t : List UInt8} {su : Nat}
theorem LI.settle {c : List Rc} (h : LI fs ns A (laid c) (laid c).length) {n : Nat} (hn : ns.getLast? = some n) (hc : ∀ r ∈ c, r.2.length ≤ 1048576) : LI fs ns (updA A n (A n ++ c)) [] 0 := by
  refine ⟨h.srt, h.ris, h.rng, h.keys, fun k hk hl => ?_, fun k hk => ?_, Nat.le_refl _, fun _ => rfl, fun k hk r hr => ?_, h.sok⟩
  · rw [updA_ne (fun e => hl (by rw [e]; exact hn))]
    exact h.full k hk hl
  · rw [hn] at hk
    obtain rfl := Option.some.inj hk
    rw [updA_self, h.last n hn, laid_append, List.append_nil, List.length_append]; rfl
  · by_cases e : k = n
    · subst e
      rw [updA_self] at hr
      exact (List.mem_append.1 hr).elim (h.dat k hk r) (hc r)
    · rw [updA_ne e] at hr
      exact h.dat k hk r hr
theorem flat_last {n : Nat} {B : List Rc} (hr : ns.Pairwise (· < ·)) (hn : ns.getLast? = some n) : ns.flatMap (updA A n (A n ++ B)) = ns.flatMap A ++ B := by
  obtain ⟨l, rfl⟩ : ∃ l, ns = l ++ [n] := List.getLast?_eq_some_iff.1 hn
  have h1 : ∀ k ∈ l, k ≠ n := fun k hk e => by
    have := (List.pairwise_append.1 hr).2.2 k hk n (by simp)
    omega
  have h2 : ∀ m : List Nat, (∀ k ∈ m, k ≠ n) → m.flatMap (updA A n (A n ++ B)) = m.flatMap A := fun m hm => by
    induction m with
    | nil => rfl
    | cons x m ih =>
      rw [List.flatMap_cons, List.flatMap_cons, updA_ne (hm x (List.mem_cons_self ..)), ih fun k hk => hm k (List.mem_cons_of_mem _ hk)]
  rw [List.flatMap_append, List.flatMap_append, h2 l h1]
  simp [updA_self]
theorem flat_new {n : Nat} {B : List Rc} (hn : ∀ k ∈ ns, k < n) : (ns ++ [n]).flatMap (updA A n B) = ns.flatMap A ++ B := by
  have h2 : ∀ m : List Nat, (∀ k ∈ m, k < n) → m.flatMap (updA A n B) = m.flatMap A := fun m hm => by
    induction m with
    | nil => rfl
    | cons x m ih =>
      have := hm x (List.mem_cons_self ..)
      rw [List.flatMap_cons, List.flatMap_cons, updA_ne (by omega), ih fun k hk => hm k (List.mem_cons_of_mem _ hk)]
  rw [List.flatMap_append, h2 ns hn]
  simp [updA_self]
theorem laid_nil {rs : List Rc} (h : laid rs = []) : rs = [] := by
  cases rs with
  | nil => rfl
  | cons r rs =>
    rw [laid_cons] at h
    have := congrArg List.length h
    rw [List.length_append] at this
    have hr : 1 ≤ (rec r).length := by rw [rec_len]; exact Nat.le_trans (by decide : 1 ≤ 5) (Nat.le_add_right_of_le (Nat.le_add_right _ _))
    simp only [List.length_nil] at this; omega
theorem ris_lt_last {n : Nat} (hr : ns.Pairwise (· < ·)) (hn : ns.getLast? = some n) : ∀ k ∈ ns, k < n + 1 := by
  obtain ⟨l, rfl⟩ : ∃ l, ns = l ++ [n] := List.getLast?_eq_some_iff.1 hn
  intro k hk
  rcases List.mem_append.1 hk with hk | hk
  · have := (List.pairwise_append.1 hr).2.2 k hk n (by simp)
    omega
  · obtain rfl := List.mem_singleton.1 hk
    omega

structure LG (d : Ds) (g : Lg) (ns : List Nat) (A : Nat → List Rc) : Prop where
  li : LI d.fs ns A [] 0
  nb : g.broken = false
  at_ : (ns.getLast? = some g.seg ∧ g.size = (laid (A g.seg)).length) ∨ (ns = [] ∧ g.size = 0)
  lo : 1 ≤ g.seg
inductive Goes (g : Lg) (ns : List Nat) (A : Nat → List Rc) (rs : List Rc) : List Nat → (Nat → List Rc) → Nat → Prop
  | here (h : ns.getLast? = some g.seg) (hs : g.size = 0 ∨ (g.size : Int) + (laid rs).length ≤ g.limit) : Goes g ns A rs ns (updA A g.seg (A g.seg ++ rs)) g.seg
  | next (m : Nat) (h : (ns = [] ∧ m = g.seg) ∨ (ns.getLast? = some g.seg ∧ m = g.seg + 1)) : Goes g ns A rs (ns ++ [m]) (updA A m rs) m
structure AppE (d : Ds) (g : Lg) (ns : List Nat) (A : Nat → List Rc) (rs : List Rc) (r : Nat × Ds × Lg) : Prop where
  room : r.2.1.room = d.room
  used : r.2.1.used ≤ d.used + (laid rs).length
  lo : d.used ≤ r.2.1.used
  lim : r.2.2.limit = g.limit
  seg : r.2.2.seg ≤ g.seg + 1
  err : r.1 = 0 ∨ r.1 = 8
  calm : d.fz = Fz.none_ → r.1 = 0 ∧ r.2.1.fz = Fz.none_
  ok : r.1 = 0 → (rs = [] ∧ r.2.1 = d ∧ r.2.2 = g) ∨ ∃ ns' A', Goes g ns A rs ns' A' r.2.2.seg ∧ LG r.2.1 r.2.2 ns' A' ∧ ns'.flatMap A' = ns.flatMap A ++ rs
  bad : r.1 = 8 → r.2.2.broken = true ∧ ∃ ns' A' t su, LI r.2.1.fs ns' A' t su ∧ Tail rs t ∧ ns'.flatMap A' = ns.flatMap A ∧ (∀ n ∈ ns', n ≤ g.seg + 1)
structure Op1 (d : Ds) (r : Nat × Ds) (fs1 : Fs) (du : Int) : Prop where
  room : r.2.room = d.room
  err : r.1 = 0 ∨ r.1 = 8
  did : (r.2.fs = fs1 ∧ r.2.used = d.used + du) ∨ (r.1 = 8 ∧ r.2.fs = d.fs ∧ r.2.used = d.used)
  calm : d.fz = Fz.none_ → r.1 = 0 ∧ r.2.fz = Fz.none_
theorem Op1.of_do {d : Ds} {act : Ds → Ds} (h : ∀ z, act { d with fz := z } = { act d with fz := z }) (hr : (act d).room = d.room) (hz : (act d).fz = d.fz) {fs1 : Fs} {du : Int} (h1 : (act d).fs = fs1) (h2 : (act d).used = d.used + du) : Op1 d (d.do_ act) fs1 du := by
  refine ⟨?_, ?_, ?_, fun hc => ?_⟩
  · rcases do_cases d act with ⟨_, e⟩ | ⟨_, e | e⟩ <;> rw [e]
    · rw [h]; exact hr
    · rw [h]; exact hr
  · rcases do_cases d act with ⟨e, _⟩ | ⟨e, _⟩
    · exact .inl e
    · exact .inr e
  · rcases do_cases d act with ⟨_, e⟩ | ⟨e0, e | e⟩ <;> rw [e]
    · rw [h]; exact .inl ⟨h1, h2⟩
    · rw [h]; exact .inl ⟨h1, h2⟩
    · exact .inr ⟨e0, rfl, rfl⟩
  · rw [do_none d act hc]; exact ⟨rfl, hz.trans hc⟩
theorem append_op {d : Ds} {n : Nm} {s : List UInt8} (hb : ¬ badName n) (hf : (s.length : Int) ≤ d.free) : Op1 d (d.append n s) (fput d.fs n ⟨((fnd d.fs n).getD Fi.z).s ++ s, ((fnd d.fs n).getD Fi.z).sure⟩) s.length := by
  unfold Ds.append
  rw [if_neg hb, if_neg (by omega)]
  exact Op1.of_do (fun _ => rfl) rfl rfl rfl rfl
theorem sync_op {d : Ds} {n : Nm} {f : Fi} (hf : fnd d.fs n = some f) : Op1 d (d.sync n) (fput d.fs n ⟨f.s, f.s.length⟩) 0 := by
  unfold Ds.sync
  rw [hf]
  exact Op1.of_do (fun _ => rfl) rfl rfl rfl (by simp)
theorem app_two {d : Ds} {m : Nat} {rs : List Rc} {ns' : List Nat} {A' : Nat → List Rc} (hm : m < 100000000) (hfree : ((laid rs).length : Int) ≤ d.free)
    (hdone : LI (fput d.fs (segN m) ⟨((fnd d.fs (segN m)).getD Fi.z).s ++ laid rs, ((fnd d.fs (segN m)).getD Fi.z).sure⟩) ns' A' (laid rs) 0) (hlast : ns'.getLast? = some m) :
    Op1 d (d.append (segN m) (laid rs)) (fput d.fs (segN m) ⟨((fnd d.fs (segN m)).getD Fi.z).s ++ laid rs, ((fnd d.fs (segN m)).getD Fi.z).sure⟩) (laid rs).length ∧
    ((d.append (segN m) (laid rs)).1 = 0 → ∃ fs2, Op1 (d.append (segN m) (laid rs)).2 ((d.append (segN m) (laid rs)).2.sync (segN m)) fs2 0 ∧ LI fs2 ns' A' (laid rs) (laid rs).length ∧ LI (d.append (segN m) (laid rs)).2.fs ns' A' (laid rs) 0) := by
  have h1 := append_op (d := d) (s := laid rs) (segN_good hm) hfree
  refine ⟨h1, fun h0 => ?_⟩
  have hfs : (d.append (segN m) (laid rs)).2.fs = fput d.fs (segN m) ⟨((fnd d.fs (segN m)).getD Fi.z).s ++ laid rs, ((fnd d.fs (segN m)).getD Fi.z).sure⟩ := by
    rcases h1.did with ⟨e, _⟩ | ⟨e, _⟩
    · exact e
    · rw [h0] at e; cases e
  rw [← hfs] at hdone
  have h2 := sync_op (hdone.last m hlast)
  refine ⟨_, h2, ?_, hdone⟩
  rw [List.length_append]
  exact hdone.setLast hlast (Nat.le_refl _)
theorem app_fin {d : Ds} {g g1 : Lg} {m : Nat} {rs : List Rc} {ns' : List Nat} {A' A2 : Nat → List Rc} (h0 : LI d.fs ns A [] 0) (hrs : ∀ r ∈ rs, r.2.length ≤ 1048576) (hm : m < 100000000) (hfree : ((laid rs).length : Int) ≤ d.free)
    (hdone : LI (fput d.fs (segN m) ⟨((fnd d.fs (segN m)).getD Fi.z).s ++ laid rs, ((fnd d.fs (segN m)).getD Fi.z).sure⟩) ns' A' (laid rs) 0) (hlast : ns'.getLast? = some m) (hflat : ns'.flatMap A' = ns.flatMap A)
    (hg1 : g1.seg = m) (hg2 : g1.limit = g.limit) (hg3 : m ≤ g.seg + 1) (hg4 : g1.size = (laid (A' m)).length) (hlo : 1 ≤ m) (hA2 : A2 = updA A' m (A' m ++ rs)) (hgo : Goes g ns A rs ns' A2 m) (hle : ∀ n ∈ ns, n ≤ g.seg + 1) :
    AppE d g ns A rs (let r := d.append (segN g1.seg) (laid rs)
      if r.1 ≠ 0 then (r.1, r.2, ⟨g1.limit, g1.seg, g1.size, r.1 == 8⟩)
      else
        let q := r.2.sync (segN g1.seg)
        (q.1, q.2, ⟨g1.limit, g1.seg, g1.size + (laid rs).length, q.1 == 8⟩)) := by
  rw [hg1]
  obtain ⟨o1, o2⟩ := app_two hm hfree hdone hlast
  have hle' : ∀ n ∈ ns', n ≤ g.seg + 1 := fun n hn => by
    have := ris_lt_last hdone.ris hlast n hn
    omega
  have hbad1 : ∃ ns' A' t su, LI (d.append (segN m) (laid rs)).2.fs ns' A' t su ∧ Tail rs t ∧ ns'.flatMap A' = ns.flatMap A ∧ (∀ n ∈ ns', n ≤ g.seg + 1) := by
    rcases o1.did with ⟨e, _⟩ | ⟨_, e, _⟩
    · rw [e]; exact ⟨_, _, _, _, hdone, Tail.all rs, hflat, hle'⟩
    · rw [e]; exact ⟨_, _, _, _, h0, Tail.nil rs, rfl, hle⟩
  have hu1 : (d.append (segN m) (laid rs)).2.used ≤ d.used + (laid rs).length := by
    rcases o1.did with ⟨_, e⟩ | ⟨_, _, e⟩ <;> omega
  have hu2 : d.used ≤ (d.append (segN m) (laid rs)).2.used := by
    rcases o1.did with ⟨_, e⟩ | ⟨_, _, e⟩ <;> omega
  by_cases he : (d.append (segN m) (laid rs)).1 ≠ 0
  · have h8 : (d.append (segN m) (laid rs)).1 = 8 := o1.err.resolve_left he
    simp only [he, if_true, ne_eq, not_false_eq_true]
    exact ⟨o1.room, hu1, hu2, hg2, hg3, o1.err, fun hc => absurd (o1.calm hc).1 he, fun e => absurd e he, fun _ => ⟨by rw [h8]; rfl, hbad1⟩⟩
  · have he : (d.append (segN m) (laid rs)).1 = 0 := Decidable.not_not.1 he
    obtain ⟨fs2, p1, p2, p3⟩ := o2 he
    simp only [he, ne_eq, not_true_eq_false, if_false]
    refine ⟨p1.room.trans o1.room, ?_, ?_, hg2, hg3, p1.err, fun hc => p1.calm (o1.calm hc).2, fun e => .inr ?_, fun e => ⟨?_, ?_⟩⟩
    · have : ((d.append (segN m) (laid rs)).2.sync (segN m)).2.used ≤ (d.append (segN m) (laid rs)).2.used := by
        rcases p1.did with ⟨_, e⟩ | ⟨_, _, e⟩ <;> omega
      show ((d.append (segN m) (laid rs)).2.sync (segN m)).2.used ≤ _
      omega
    · have : (d.append (segN m) (laid rs)).2.used ≤ ((d.append (segN m) (laid rs)).2.sync (segN m)).2.used := by
        rcases p1.did with ⟨_, e⟩ | ⟨_, _, e⟩ <;> omega
      show _ ≤ ((d.append (segN m) (laid rs)).2.sync (segN m)).2.used
      omega
    · have e : ((d.append (segN m) (laid rs)).2.sync (segN m)).1 = 0 := e
      have hfs : ((d.append (segN m) (laid rs)).2.sync (segN m)).2.fs = fs2 := by
        rcases p1.did with ⟨e2, _⟩ | ⟨e2, _⟩
        · exact e2
        · rw [e] at e2; cases e2
      have hset := p2.settle hlast hrs
      rw [← hfs] at hset
      refine ⟨ns', A2, hgo, ⟨hA2 ▸ hset, ?_, .inl ⟨hlast, ?_⟩, hlo⟩, ?_⟩
      · show (((d.append (segN m) (laid rs)).2.sync (segN m)).1 == 8) = false
        rw [e]; rfl
      · show g1.size + (laid rs).length = (laid (A2 m)).length
        rw [hA2, updA_self, laid_append, List.length_append, hg4]
      · rw [hA2, flat_last hdone.ris hlast, hflat]
    · have e : ((d.append (segN m) (laid rs)).2.sync (segN m)).1 = 8 := e
      show (((d.append (segN m) (laid rs)).2.sync (segN m)).1 == 8) = true
      rw [e]; rfl
    · show ∃ ns' A' t su, LI ((d.append (segN m) (laid rs)).2.sync (segN m)).2.fs ns' A' t su ∧ _
      rcases p1.did with ⟨e2, _⟩ | ⟨_, e2, _⟩
      · rw [e2]; exact ⟨_, _, _, _, p2, Tail.all rs, hflat, hle'⟩
      · rw [e2]; exact ⟨_, _, _, _, p3, Tail.all rs, hflat, hle'⟩
theorem no_seg {m : Nat} (h : LI fs ns A t su) (hm : ∀ n ∈ ns, n < m) (h2 : m < 100000000) : fnd fs (segN m) = none := by
  cases hc : fnd fs (segN m) with
  | none => rfl
  | some f =>
    obtain ⟨n, hn, e⟩ := h.keys _ (segN_pre m) (by rw [hc]; rfl)
    have := segN_inj h2 (h.rng n hn).2 e
    have := hm n hn
    omega
theorem append_any {d : Ds} {g : Lg} {rs : List Rc} (h : LG d g ns A) (hrs : ∀ r ∈ rs, r.2.length ≤ 1048576) (hfree : ((laid rs).length : Int) ≤ d.free) (hseg : g.seg + 1 < 100000000) : AppE d g ns A rs (wAppend d g rs) := by
  unfold wAppend
  rw [if_neg (by rw [h.nb]; decide)]
  by_cases h0 : laid rs = []
  · rw [if_pos h0]
    exact ⟨rfl, by simp only; omega, Int.le_refl _, rfl, Nat.le_succ _, .inl rfl, fun hc => ⟨rfl, hc⟩, fun _ => .inl ⟨laid_nil h0, rfl, rfl⟩, fun e => by cases e⟩
  · rw [if_neg h0, if_neg (by omega)]
    have hnew : ∀ m, (∀ n ∈ ns, n < m) → 1 ≤ m → m < 100000000 → LI (fput d.fs (segN m) ⟨((fnd d.fs (segN m)).getD Fi.z).s ++ laid rs, ((fnd d.fs (segN m)).getD Fi.z).sure⟩) (ns ++ [m]) (updA A m []) (laid rs) 0 := fun m h1 h2 h3 => by
      have hno := no_seg h.li h1 h3
      rw [hno]
      refine h.li.new h1 h2 h3 (B := []) (fun r hr => by cases hr) (Nat.zero_le _) (h.li.srt.put _ _) (fun x _ => ?_) (put_sok h.li.sok (Nat.zero_le _))
      rw [fnd_put]; rfl
    have hlasts : ∀ m, (ns ++ [m]).getLast? = some m := fun m => by simp
    rcases h.at_ with ⟨hl, hz⟩ | ⟨hn, hz⟩
    · have hle : ∀ n ∈ ns, n ≤ g.seg + 1 := fun n hn => Nat.le_of_lt (ris_lt_last h.li.ris hl n hn)
      by_cases hsw : 0 < g.size ∧ g.limit - (laid rs).length < g.size
      · rw [if_pos hsw]
        exact app_fin (g1 := ⟨g.limit, g.seg + 1, 0, g.broken⟩) (m := g.seg + 1) (A2 := updA A (g.seg + 1) rs) h.li hrs hseg hfree (hnew _ (ris_lt_last h.li.ris hl) (by omega) hseg) (hlasts _) (by rw [flat_new (ris_lt_last h.li.ris hl), List.append_nil]) rfl rfl (Nat.le_refl _) (by rw [updA_self]; rfl) (by omega)
          (by funext n; unfold updA; split <;> simp_all) (.next _ (.inr ⟨hl, rfl⟩)) hle
      · rw [if_neg hsw]
        have hf := h.li.last g.seg hl
        have hdone : LI (fput d.fs (segN g.seg) ⟨((fnd d.fs (segN g.seg)).getD Fi.z).s ++ laid rs, ((fnd d.fs (segN g.seg)).getD Fi.z).sure⟩) ns A (laid rs) 0 := by
          rw [hf]
          show LI (fput d.fs (segN g.seg) ⟨laid (A g.seg) ++ [] ++ laid rs, (laid (A g.seg)).length + 0⟩) ns A (laid rs) 0
          rw [List.append_nil]
          exact h.li.setLast hl (Nat.zero_le _)
        exact app_fin (g1 := g) (m := g.seg) h.li hrs (by omega) hfree hdone hl rfl rfl rfl (Nat.le_succ _) hz h.lo rfl (.here hl (by omega)) hle
    · subst hn
      rw [if_neg (show ¬ (0 < g.size ∧ g.limit - (laid rs).length < g.size) by omega)]
      exact app_fin (g1 := g) (m := g.seg) (A2 := updA A g.seg rs) h.li hrs (by omega) hfree (hnew _ (fun n hn => by cases hn) h.lo (by omega)) (hlasts _) (by simp [updA_self]) rfl rfl (Nat.le_succ _) (by rw [updA_self, hz]; rfl) h.lo
        (by funext n; unfold updA; split <;> simp_all) (.next _ (.inl ⟨rfl, rfl⟩)) (fun n hn => by cases hn)
end
end Go.Bar.Wal

namespace Go.Bar.Wal
open Go.RowKit Go.Bar Go.Bar.Leb Go.Bar.Frm

structure Stp (d : Ds) (r : Nat × Ds) (du : Int) (P0 P8 : Fs → Prop) : Prop where
  room : r.2.room = d.room
  used : r.2.used ≤ d.used + du
  err : r.1 = 0 ∨ r.1 = 8
  calm : d.fz = Fz.none_ → r.1 = 0 ∧ r.2.fz = Fz.none_
  ok : r.1 = 0 → P0 r.2.fs
  bad : r.1 = 8 → P8 r.2.fs
theorem Stp.mono {d : Ds} {r : Nat × Ds} {du : Int} {P0 P8 Q0 Q8 : Fs → Prop} (h : Stp d r du P0 P8) (h0 : ∀ fs, P0 fs → Q0 fs) (h8 : ∀ fs, P8 fs → Q8 fs) : Stp d r du Q0 Q8 := ⟨h.room, h.used, h.err, h.calm, fun e => h0 _ (h.ok e), fun e => h8 _ (h.bad e)⟩

section
variable {fs : Fs} {ns : List Nat} {A : Nat → List Rc} {t : List UInt8} {su : Nat}
end
end Go.Bar.Wal

namespace Go.Bar.Wal
open Go.RowKit Go.Bar Go.Bar.Leb Go.Bar.Frm

section
variable {d : Ds} {ns : List Nat} {A : Nat → List Rc} {b : List Rc} {t : List UInt8} {su : Nat}
theorem found_flat (c : List Rc) (hr : ns.Pairwise (· < ·)) (hne : ns ≠ []) : ns.flatMap (foundIn ns A c) = ns.flatMap A ++ c := by
  obtain ⟨n, hn⟩ : ∃ n, ns.getLast? = some n := by
    cases h : ns.getLast? with
    | none => exact absurd (List.getLast?_eq_none_iff.1 h) hne
    | some n => exact ⟨n, rfl⟩
  have : foundIn ns A c = updA A n (A n ++ c) := by
    funext k
    unfold foundIn updA
    by_cases e : k = n
    · rw [if_pos e, e, if_pos hn]
    · rw [if_neg e, if_neg (fun h => e (by rw [hn] at h; exact (Option.some.inj h).symm))]
  rw [this, flat_last hr hn]
theorem wOpen_any (h : LI d.fs ns A t su) (ht : Tail b t) (hb : ∀ r ∈ b, r.2.length ≤ 1048576) (limit : Int) :
    (∃ t' su', LI (wOpen d limit).2.1.fs ns A t' su' ∧ Tail b t') ∧ ((wOpen d limit).1 = 0 ∨ (wOpen d limit).1 = 8) ∧ (wOpen d limit).2.1.room = d.room ∧ (wOpen d limit).2.1.used ≤ d.used := by
  obtain ⟨h1, h2⟩ := openL_any hb ns [] d t su [] 1 0 h ht rfl
  unfold wOpen
  rw [h.segs]
  by_cases e : (openL ns d [] 1 0).1 ≠ 0
  · rw [if_pos e]; exact ⟨h1, h2.err, h2.room, h2.used⟩
  · rw [if_neg e]; exact ⟨h1, .inl rfl, h2.room, h2.used⟩
theorem wOpen_calm (h : LI d.fs ns A t su) (ht : Tail b t) (hb : ∀ r ∈ b, r.2.length ≤ 1048576) (limit : Int) (hz : d.fz = Fz.none_) :
    ∃ j d' g A', wOpen d limit = (0, d', g, since (ns.flatMap A ++ b.take j)) ∧ g.limit = max limit 1 ∧ LG d' g ns A' ∧ ns.flatMap A' = ns.flatMap A ++ b.take j ∧ d'.fz = Fz.none_ ∧ d'.room = d.room ∧ d'.used ≤ d.used ∧ (ns = [] → g.seg = 1) := by
  obtain ⟨j, d', q, z, e, g1, g2, g3, g4, g5⟩ := openL_calm hb ns [] d t su [] 1 0 h ht rfl hz
  have hw : wOpen d limit = (0, d', ⟨max limit 1, q, z, false⟩, since (ns.flatMap (foundIn ns A (b.take j)))) := by
    unfold wOpen
    rw [h.segs, e]
    rfl
  by_cases hne : ns = []
  · obtain ⟨rfl, rfl, rfl⟩ := g4 hne
    have htn := h.emp hne
    subst hne; subst htn
    refine ⟨0, d', _, A, hw.trans rfl, rfl, ⟨⟨h.srt, h.ris, h.rng, h.keys, h.full, fun n hn => (by cases hn), Nat.le_refl _, fun _ => rfl, h.dat, h.sok⟩, rfl, .inr ⟨rfl, rfl⟩, Nat.le_refl _⟩, rfl, g1, g2, g3, fun _ => rfl⟩
  · obtain ⟨g5, hl, hz⟩ := g5 hne
    have hs := g5.settle hl (fun r hr => hb r (List.mem_of_mem_take hr))
    refine ⟨j, d', ⟨max limit 1, q, z, false⟩, _, ?_, rfl, ⟨hs, rfl, .inl ⟨hl, ?_⟩, (h.rng q (last_mem' hl)).1⟩, flat_last h.ris hl, g1, g2, g3, fun e => absurd e hne⟩
    · rw [hw, found_flat _ h.ris hne]
    · show z = (laid (updA A q (A q ++ b.take j) q)).length
      rw [updA_self, hz]
      unfold foundIn
      rw [if_pos hl]
theorem LI.empty : LI [] [] A [] 0 := ⟨List.Pairwise.nil, List.Pairwise.nil, fun n hn => (by cases hn), fun x _ hx => (by cases hx), fun n hn => (by cases hn), fun n hn => (by cases hn), Nat.le_refl _, fun _ => rfl, fun n hn => (by cases hn), fun x f hf => (by cases hf)⟩
end
end Go.Bar.Wal
