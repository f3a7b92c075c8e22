/-
  Layer 25: the walks of first and Settle.
-/
import Derived.Test.YtjklcojnbcemoaaGreatDoorZLdgB
import Derived.Test.YtjklcojnbcemoaaGreatDoorZLabB
import Derived.Test.YtjklcojnbcemoaaGreatDoorZLib9

namespace Go.Bar.Mrg
open Go.RowKit Go.Bar Go.Bar.Xor Go.Bar.Lab

/-- how often each key is missing -/
def CntIs (f : List UInt8 → Option Int) (ms : List (List Pr)) : Prop := ∀ l, (f l).getD 0 = ((ms.map key).count l : Int)
theorem CntIs.nil : CntIs (fun _ => none) [] := fun _ => rfl
theorem CntIs.cons {f : List UInt8 → Option Int} {ms : List (List Pr)} (h : CntIs f ms) (L : List Pr) (z : Int) (hz : z = ((ms.map key).count (key L) : Int)) : CntIs (upd f (key L) (z + 1)) (L :: ms) := fun l => by
  unfold upd
  rw [List.map_cons, List.count_cons]
  split
  · rename_i e
    subst e
    simp [hz]
  · rename_i e
    rw [h l, if_neg (by simpa using Ne.symm e)]
    simp
theorem firstP_at {R : List Row} {ps : List Pt} {k : Nat} {p : Pt} (h : ps[k]? = some p) (ms : List (List Pr)) : firstP R (ps.drop k) ms = if hasP R p.1 p.2 = true then (if p.1 ∈ ms then false else firstP R (ps.drop (k + 1)) ms) else firstP R (ps.drop (k + 1)) (p.1 :: ms) := by
  obtain ⟨hlt, rfl⟩ := List.getElem?_eq_some_iff.1 h
  rw [List.drop_eq_getElem_cons hlt]
  rfl
end Go.Bar.Mrg
namespace Go.Proofs.YtjklcojnbcemoaaGreatDoor
open Go.RowKit Go.Bar Go.Bar.Leb Go.Bar.Lab Go.Bar.Xor Go.Bar.Mrg

theorem miss_ty : MapTy Tryz.prog 126 9 3 := ⟨Tryz.underlying126, Tryz.underlying9, Tryz.underlying3, fun w => by kernel_rfl⟩
theorem IsL.pairs {L : List Pr} (h : IsL L) : ∀ p ∈ L, p.1.length ≤ 100 ∧ p.2.length ≤ 100 := by
  obtain ⟨m, rfl⟩ := h
  unfold lab5
  have : m % 5 < 5 := Nat.mod_lt _ (by decide)
  generalize m % 5 = j at this
  rcases j with _ | _ | _ | _ | _ | j <;> first | omega | (intro p hp; revert p hp; decide)
theorem IsL.key_eq {L M : List Pr} (h : IsL L) (k : IsL M) : key L = key M ↔ L = M := key_inj (by have := h.len; omega) (by have := k.len; omega) h.pairs k.pairs
theorem IsL.key_len {L : List Pr} (h : IsL L) : (key L).length ≤ 1000 := by
  obtain ⟨m, rfl⟩ := h
  unfold lab5
  have : m % 5 < 5 := Nat.mod_lt _ (by decide)
  generalize m % 5 = j at this
  rcases j with _ | _ | _ | _ | _ | j <;> first | omega | decide +kernel
theorem key_mem {L : List Pr} {ms : List (List Pr)} (h : IsL L) (hm : ∀ M ∈ ms, IsL M) : (0 < (ms.map key).count (key L)) ↔ L ∈ ms := by
  rw [List.count_pos_iff]
  constructor
  · intro hk
    obtain ⟨M, hM, e⟩ := List.mem_map.1 hk
    rw [← (hm M hM).key_eq h |>.1 e]
    exact hM
  · exact fun hk => List.mem_map_of_mem hk

set_option maxHeartbeats 8000000 in
set_option maxRecDepth 10000 in
theorem first_any (B : World) (X : Nat) (t : List Rv) (ps : List Pv) (v : Value) (s : List Rv) (w : World) (h : Lg B X t ps w) (hv : TbAt w v s) (hr : Rls (s.map plR)) (hsn : s.length ≤ 1000000) (hps : ∀ p ∈ ps, IsL p.ls) (hn : ps.length ≤ 100) :
    Calls Tryz.prog 40 #[.pointer (some ⟨X, 0, none⟩), v] w (RetBelow w (.bool (firstP (s.map plR) (ps.map plP) []))) := by
  obtain ⟨⟨A, c, A2, c2, hX, h1, h2, h4⟩, _⟩ := h
  obtain ⟨VA, vc, rfl, hvl, hvm⟩ := hv.shape
  obtain ⟨_, _, he, hpc, hpm⟩ := h2.at_.shape
  injection he with e1 _ e3
  subst e1; subst e3
  unfold maxLen at hvm hpm
  obtain ⟨Z, hZ⟩ : ∃ Z, Z = firstP (s.map plR) (ps.map plP) [] := ⟨_, rfl⟩
  rw [← hZ]
  have HZ := Lib.hid hZ
  have HX := Lib.hid hX
  have HV := Lib.hid hv
  have HP := Lib.hid h2.at_
  have HR := Lib.hid hr
  have HPS := Lib.hid hps
  clear hX h1 h2 h4 hv hr hps hZ
  have hmm := @run_makeMap Tryz.prog
  go_enter Tryz.func40, Tryz.ntmps40
  go_upto_region 2 with fail
  have hm0 := MpAt.made w Tryz.prog 9 3
  have hb0 := below_alloc1 w (.map #[] 0)
  obtain ⟨w1, hw1⟩ : ∃ w1, w1 = w.alloc (.map #[] 0) := ⟨_, rfl⟩
  rw [← hw1] at hm0 hb0 ⊢
  obtain ⟨c0, c1⟩ := (HX.out.below hb0).c2
  obtain ⟨mb, hmb⟩ : ∃ mb, mb = w.heap.size := ⟨_, rfl⟩
  have hmw : w.heap.size ≤ mb := Nat.le_of_eq hmb.symm
  rw [← hmb] at hm0 ⊢
  clear hw1 hmm hmb
  go_wp2_with fail
  clear c0 c1
  go_loopw [8, 15] (fun _ i wr => ∃ (k n : Nat) (f : List UInt8 → Option Int) (ms : List (List Pr)), i = .int .i64 k ∧ k ≤ ps.length ∧ n ≤ k ∧ ms.length ≤ k ∧ MpAt Tryz.prog 9 3 wr mb n f ∧ Below w.heap.size w wr ∧ Hid (CntIs f ms) ∧ Hid (∀ M ∈ ms, IsL M) ∧ Hid (Z = firstP (s.map plR) ((ps.map plP).drop k) ms)) (fun _ i _ => ps.length - (intOf i).toNat)
  case atStart => exact ⟨0, 0, _, [], rfl, Nat.zero_le _, Nat.le_refl _, Nat.le_refl _, hm0, hb0, Lib.hid CntIs.nil, Lib.hid (fun _ h => by cases h), Lib.hid HZ.out⟩
  case round =>
    obtain ⟨k, n, f, ms, rfl, hk, hnk, hmk, hM, hB, HC, HIM, HF⟩ := hrel
    clear hm0 hb0
    by_cases hgo : k < ps.length
    · obtain ⟨⟨L, la, lc, y⟩, hx⟩ : ∃ p, ps[k]? = some p := ⟨_, List.getElem?_eq_getElem hgo⟩
      obtain ⟨b, o, rfl, a0, a1, a2, hla⟩ := (HP.out.below hB).at_ hx
      dsimp only at a0 a1 a2
      have hla : PsAt wr (.slice la L.length lc) L := hla
      have hpl : (ps.map plP)[k]? = some (L, y) := by rw [List.getElem?_map, hx]; rfl
      have hf := HF.out
      rw [firstP_at hpl] at hf
      have hil : IsL L := HPS.out _ (List.mem_of_getElem? hx)
      have HIL := Lib.hid hil
      have hkl := hil.key_len
      have hll := hil.len
      have HPR := Lib.hid hil.pairs
      obtain ⟨wb, hwb⟩ : ∃ wb, wb = wr.alloc (.cells #[.slice la L.length lc, .int .i64 y.1, .int .u64 (y.2 : Nat)] 46) := ⟨_, rfl⟩
      have hb5 : Below wr.heap.size wr wb := by rw [hwb]; exact below_alloc1 _ _
      have hY : Blk wb wr.heap.size 46 #[.slice la L.length lc, .int .i64 y.1, .int .u64 (y.2 : Nat)] := by rw [hwb]; exact Blk.new _ _ _
      obtain ⟨k0, k1, k2⟩ := hY.c3
      have HY := Lib.hid hY
      have HLA := Lib.hid (PsAt.below hla hb5)
      have HKY := Lib.hid (key_any (.slice la L.length lc) L wb (PsAt.below hla hb5) (by omega) (fun p hp => by have := HPR.out p hp; omega))
      have HF2 := Lib.hid hf
      have hM5 := hM.below hb5
      have hB5 := below_trans hB hb5
      obtain ⟨K, hK⟩ : ∃ K, K = key L := ⟨_, rfl⟩
      rw [← hK] at HKY hkl
      have HK := Lib.hid hK
      clear hla hpl hf hx hY hM hB hK hil HF
      go_upto_region 5 with fail
      rw [← hwb]
      clear a0 a1 a2
      obtain ⟨Y, hYe⟩ : ∃ Y, Y = wr.heap.size := ⟨_, rfl⟩
      rw [← hYe] at k0 k1 k2 HY ⊢
      clear hwb hYe hb5
      go_wp2_with fail
      refine HKY.out.mono ?_
      rintro e w6 ⟨rfl, hb6⟩
      have hM6 := hM5.below hb6
      have hB6 := below_trans hB5 hb6
      have HY6 := Lib.hid (HY.out.below hb6)
      obtain ⟨m0, m1, m2⟩ := HY6.out.c3
      have HH := Lib.hid (has_any (.slice VA s.length vc) (.slice la L.length lc) s L y w6 (HV.out.below hB6) (HLA.out.below hb6) HR.out hsn)
      obtain ⟨Q, hQ⟩ : ∃ Q, Q = hasP (s.map plR) L y := ⟨_, rfl⟩
      rw [← hQ] at HH
      have HQ := Lib.hid hQ
      clear hM5 hB5 HKY hb6 HY k0 k1 k2 hQ
      go_wp2_with fail
      refine HH.out.mono ?_
      rintro e w7 ⟨rfl, hb7⟩
      have hM7 := hM6.below hb7
      have hB7 := below_trans hB6 hb7
      have hcn : (f K).getD 0 = (((ms.map key).count K : Nat) : Int) := HC.out K
      have hcl := List.count_le_length (l := ms.map key) (a := K)
      rw [List.length_map] at hcl
      have hkm := key_mem HIL.out HIM.out
      rw [← HK.out] at hkm
      obtain ⟨C, hC⟩ : ∃ C, C = (ms.map key).count K := ⟨_, rfl⟩
      rw [← hC] at hcn hcl hkm
      have HCN := Lib.hid hcn
      have HKM := Lib.hid hkm
      have HCE := Lib.hid hC
      have hkl2 : K.length ≤ maxLen := by unfold maxLen; omega
      clear hM6 hB6 hb7 HH HY6 m0 m1 m2 hcn hkm hC
      rcases Q with _ | _
      · have hfz := HF2.out
        rw [if_neg (by show ¬ hasP (s.map plR) L y = true; rw [← HQ.out]; exact Bool.false_ne_true)] at hfz
        have HFZ := Lib.hid hfz
        have HCC := Lib.hid (HC.out.cons L (C : Int) (by rw [HCE.out, HK.out]))
        rw [← HK.out] at HCC
        clear hfz
        go_wp2_with (first
          | (at_lookup; refine wpList_lookup_mp _ rfl _ _ 126 rfl miss_ty rfl hM7 K rfl hkl2 (C : Int) HCN.out ?_)
          | (at_mapUpdate; refine wpList_update_mp _ rfl _ _ _ 126 rfl miss_ty rfl hM7 (by unfold maxLen; omega) K rfl hkl2 ((C : Int) + 1) (by go_num) (by omega) (by omega) ?_; intro w8 hm8 hg8))
        go_roundw
        case rel => exact ⟨k + 1, n + 1, _, L :: ms, by go_num, by omega, by omega, by simp; omega, hm8, grown_below hB7 hg8 hmw (Nat.le_refl _), HCC, Lib.hid (fun M hM => (List.mem_cons.1 hM).elim (fun e => e ▸ HIL.out) (HIM.out M)), HFZ⟩
        case measure => simp [intOf]; omega
      · have hfz := HF2.out
        rw [if_pos (by show hasP (s.map plR) L y = true; exact HQ.out.symm)] at hfz
        by_cases hC0 : 0 < C
        · rw [if_pos (HKM.out.1 hC0)] at hfz
          subst hfz
          have hci : (0 : Int) < (C : Int) := by omega
          go_wp2_with (at_lookup; refine wpList_lookup_mp _ rfl _ _ 126 rfl miss_ty rfl hM7 K rfl hkl2 (C : Int) HCN.out ?_)
          go_ret
          exact ⟨rfl, hB7⟩
        · rw [if_neg (fun h => hC0 (HKM.out.2 h))] at hfz
          have HFZ := Lib.hid hfz
          obtain rfl : C = 0 := by omega
          clear hfz
          go_wp2_with (at_lookup; refine wpList_lookup_mp _ rfl _ _ 126 rfl miss_ty rfl hM7 K rfl hkl2 0 HCN.out ?_)
          go_roundw
          case rel => exact ⟨k + 1, n, f, ms, by go_num, by omega, by omega, by omega, hM7, hB7, HC, HIM, HFZ⟩
          case measure => simp [intOf]; omega
    · have hz := HF.out
      rw [List.drop_of_length_le (by rw [List.length_map]; omega)] at hz
      have hz : Z = true := hz
      subst hz
      go_wp2_with fail
      go_ret
      exact ⟨rfl, hB⟩

/-- how a ledger settles: an error's number, or 0 -/
noncomputable def settleP (S N : List Row) (P : List Pt) : Int := if goodB N = false then 3 else if withinP S N = false then 5 else if withinP N (addAll S P) = false then 6 else if firstP N P [] = false then 10 else 0
theorem goodB_rls {N : List Row} (h : goodB N = true) : Rls N := by
  by_cases hg : GoodP N
  · exact hg.1
  · rw [goodB_false hg] at h; cases h
/-- what Settle comes to -/
def RetSet (B w : World) (X : Nat) (t : List Rv) (ps : List Pv) (N : List Row) (z : Int) (e : Ending) (w' : World) : Prop := e = .returned (.int .i64 z) ∧ ((z ≠ 0 ∧ Below w.heap.size w w') ∨ (z = 0 ∧ Ke Tl25 w w' ∧ ∃ n, Lg B X n [] w' ∧ n.map plR = N))

set_option maxHeartbeats 8000000 in
set_option maxRecDepth 10000 in
theorem settle_any (B : World) (X : Nat) (t : List Rv) (ps : List Pv) (m : Nat) (v : Value) (n : List Rv) (w : World) (h : Lg B X t ps w) (hT : Tb (t.map plR)) (hz : SzP (t.map plR) m) (hps : ∀ p ∈ ps, IsL p.ls) (hm : m + ps.length ≤ 100) (hv : TbAt w v n) (hn : SzP (n.map plR) 100) (z : Int) (hzz : z = settleP (t.map plR) (n.map plR) (ps.map plP)) (hN : z = 0 → Tb (n.map plR)) :
    Calls Tryz.prog 17 #[.pointer (some ⟨X, 0, none⟩), v] w (RetSet B w X t ps (n.map plR) z) := by
  have hnl : n.length ≤ 100 := by have := hn.1; rwa [List.length_map] at this
  have hlg := h
  obtain ⟨⟨A, c, A2, c2, hX, h1, h2, h4⟩, _⟩ := h
  have HL := Lib.hid hlg
  have HX := Lib.hid hX
  have H1 := Lib.hid h1.tb
  have HV := Lib.hid hv
  have HT := Lib.hid hT
  have HZ := Lib.hid hz
  have HPS := Lib.hid hps
  have HN := Lib.hid hN
  have HNS := Lib.hid hn
  have HG := Lib.hid (mgood_any v n w hv)
  obtain ⟨VA, vc, rfl, hvl, hvm⟩ := hv.shape
  obtain ⟨N, hNN⟩ : ∃ N, N = n.map plR := ⟨_, rfl⟩
  have HNN := Lib.hid hNN
  obtain ⟨S, hS⟩ : ∃ S, S = t.map plR := ⟨_, rfl⟩
  have HS := Lib.hid hS
  obtain ⟨M, hM⟩ : ∃ M, M = addAll S (ps.map plP) := ⟨_, rfl⟩
  have HM := Lib.hid hM
  obtain ⟨g, hg⟩ : ∃ g, g = goodB N := ⟨_, rfl⟩
  rw [← hNN, ← hg] at HG
  rw [← hNN]
  rw [← hNN, ← hS] at hzz
  unfold settleP at hzz
  rw [← hg, ← hM] at hzz
  have HGG := Lib.hid hg
  clear hX h1 h2 h4 hlg hT hz hps hN hn hNN hS hM hg hv
  rcases g with _ | _
  · rw [if_pos rfl] at hzz
    subst hzz
    clear HN
    go_enter Tryz.func17, Tryz.ntmps17
    go_wp2_with fail
    refine HG.out.mono ?_
    rintro e w1 ⟨rfl, hb⟩
    go_wp2_with fail
    go_ret
    exact ⟨rfl, .inl ⟨by decide, hb⟩⟩
  · rw [if_neg Bool.noConfusion] at hzz
    have HR := Lib.hid (goodB_rls HGG.out.symm)
    have H2 := Lib.hid (fun w' (hb : Below w.heap.size w w') => within_any _ _ t n w' (H1.out.below hb) (HV.out.below hb) (by rw [← HNN.out]; exact HR.out) (by omega))
    rw [← HNN.out, ← HS.out] at H2
    obtain ⟨g, hg⟩ : ∃ g, g = withinP S N := ⟨_, rfl⟩
    rw [← hg] at H2 hzz
    clear hg
    rcases g with _ | _
    · rw [if_pos rfl] at hzz
      subst hzz
      clear HN
      go_enter Tryz.func17, Tryz.ntmps17
      go_wp2_with fail
      refine HG.out.mono ?_
      rintro e w1 ⟨rfl, hb⟩
      obtain ⟨c0, c1⟩ := (HX.out.below hb).c2
      go_wp2_with fail
      refine (H2.out _ hb).mono ?_
      rintro e w2 ⟨rfl, hb2⟩
      have hb := below_trans hb hb2
      go_wp2_with fail
      go_ret
      exact ⟨rfl, .inl ⟨by decide, hb⟩⟩
    · rw [if_neg Bool.noConfusion] at hzz
      obtain ⟨g, hg⟩ : ∃ g, g = withinP N M := ⟨_, rfl⟩
      rw [← hg] at hzz
      have HQ := Lib.hid hg
      have HZZ := Lib.hid hzz
      clear hg hzz
      go_enter Tryz.func17, Tryz.ntmps17
      go_wp2_with fail
      refine HG.out.mono ?_
      rintro e w1 ⟨rfl, hb⟩
      obtain ⟨c0, c1⟩ := (HX.out.below hb).c2
      clear HG
      go_wp2_with fail
      refine (H2.out _ hb).mono ?_
      rintro e w2 ⟨rfl, hb2⟩
      have hb3 := below_trans hb hb2
      have HMY := Lib.hid (may_any B X t ps m w2 (HL.out.below hb3) HT.out HZ.out HPS.out hm)
      rw [← HS.out, ← HM.out] at HMY
      clear H2 c0 c1 hb hb2
      go_wp2_with fail
      refine HMY.out.mono ?_
      rintro e w4 ⟨v4, t4, rfl, hb4, ho4, hm4⟩
      have hb5 := below_trans hb3 hb4
      have hst := HT.out
      rw [← HS.out] at hst
      have htm : Tb M := by rw [HM.out]; exact (add_spec _ hst).1
      have hsm : SzP M 100 := by
        have h0 := HZ.out
        rw [← HS.out] at h0
        have h1 := h0.addAll (ps := ps.map plP) fun q hq => by
          obtain ⟨y, hy, rfl⟩ := List.mem_map.1 hq
          exact HPS.out y hy
        rw [List.length_map, ← HM.out] at h1
        exact h1.mono hm
      have hl4 : t4.length ≤ 1000000 := by have := hsm.1; rw [← hm4, List.length_map] at this; omega
      have hw4 := within_any _ _ n t4 w4 (HV.out.below hb5) ho4.tb (by rw [hm4]; exact htm.rls) hl4
      rw [hm4, ← HNN.out, ← HQ.out] at hw4
      have HW4 := Lib.hid hw4
      obtain ⟨A4, c4, rfl⟩ := ho4.shape
      clear HMY hst htm hsm hw4 ho4 hm4 hb3 hb4 hl4
      go_wp2_with fail
      refine HW4.out.mono ?_
      rintro e w6 ⟨rfl, hb6⟩
      have hb7 := below_trans hb5 hb6
      clear hb5 hb6 HW4
      have hzz := HZZ.out
      clear HZZ
      rcases g with _ | _
      · rw [if_pos rfl] at hzz
        subst hzz
        go_wp2_with fail
        go_ret
        exact ⟨rfl, .inl ⟨by decide, hb7⟩⟩
      · rw [if_neg Bool.noConfusion] at hzz
        have hfi := first_any B X t ps (.slice VA n.length vc) n w6 (HL.out.below hb7) (HV.out.below hb7) (by rw [← HNN.out]; exact HR.out) (by omega) HPS.out (by omega)
        obtain ⟨g, hg⟩ : ∃ g, g = firstP N (ps.map plP) [] := ⟨_, rfl⟩
        rw [← HNN.out, ← hg] at hfi
        rw [← hg] at hzz
        have HFI := Lib.hid hfi
        have HZZ := Lib.hid hzz
        clear hg hfi hzz
        go_wp2_with fail
        refine HFI.out.mono ?_
        rintro e w8 ⟨rfl, hb8⟩
        have hb9 := below_trans hb7 hb8
        clear HFI hb8 hb7
        have hzz := HZZ.out
        clear HZZ
        rcases g with _ | _
        · rw [if_pos rfl] at hzz
          subst hzz
          go_wp2_with fail
          go_ret
          exact ⟨rfl, .inl ⟨by decide, hb9⟩⟩
        · rw [if_neg Bool.noConfusion] at hzz
          subst hzz
          have HNT := Lib.hid (HN.out rfl)
          have hbB := below_trans HL.out.bel hb9
          have hto := tables_ow B 23 [.slice VA n.length vc] [n] 1 100 100 N w8 hbB rfl rfl (by decide) (fun i t' ht => by
            rcases i with _ | i
            · obtain rfl : n = t' := by simpa using ht
              exact ⟨_, rfl, HV.out.below hb9⟩
            · simp at ht) (all1 HNS.out.szd) (all1 HNT.out.rls) (by rw [HNN.out]; exact self_tabs HNT.out) (by decide) (by decide)
          have HTO := Lib.hid hto
          clear hto HN
          go_wp2_with fail
          refine HTO.out.mono ?_
          rintro e w10 ⟨v10, t10, rfl, hb10, ho10, hm10⟩
          have hba := below_trans hb9 (below_trans (below_alloc1 _ _) hb10)
          have hs1 := (HL.out.below hba).setT ho10
          have hs2 := hs1.1.setP (v := .slice none 0 0) (qs := []) (OwnP.nil hs1.1.bel) (fun _ => rfl)
          have HK := Lib.hid (((Ke.of_below (Ts := Tl25) hba).trans hs1.2).trans hs2.2)
          have HL2 := Lib.hid (And.intro hs2.1 hm10)
          obtain ⟨A10, c10, rfl⟩ := ho10.shape
          have hX10 := HX.out.below hba
          obtain ⟨d0, d1⟩ := hX10.c2
          have f0 := hX10.free 0
          have hX11 := hX10.set 0 (.slice A10 t10.length c10)
          have e1 : (w10.setCell ⟨X, 0, none⟩ (.slice A10 t10.length c10)).cell? ⟨X, 1, none⟩ = some (.slice A2 ps.length c2) := hX11.cell (i := 1) rfl
          have f1 := hX11.free 1
          clear hs1 hs2 ho10 hm10 hX10 hX11 hb10 hba
          go_wp2_with fail
          go_ret
          exact ⟨rfl, .inr ⟨rfl, HK.out, t10, HL2.out⟩⟩
end Go.Proofs.YtjklcojnbcemoaaGreatDoor

/-
  Layers 13, 23, 25: the walks of matcher.Match without matchers, of Ask.Of, of Answers.
-/
namespace Go.Proofs.YtjklcojnbcemoaaGreatDoor
open Go.RowKit Go.Bar Go.Bar.Leb Go.Bar.Lab Go.Bar.Xor Go.Bar.Mrg

set_option maxHeartbeats 1000000 in
set_option maxRecDepth 10000 in
theorem match0_any (A : Option Addr) (n c : Nat) (w : World) : Calls Tryz.prog 42 #[.slice A n c, .slice none 0 0] w (RetBelow w (.bool true)) := by
  go_enter Tryz.func42, Tryz.ntmps42
  go_wp2_with fail
  go_loopw [9] (fun i wr => i = .int .i64 0 ∧ wr = w) (fun _ _ => 0)
  case atStart => exact ⟨rfl, rfl⟩
  case round =>
    obtain ⟨rfl, rfl⟩ := hrel
    go_wp2_with fail
    go_ret
    exact ⟨rfl, Below.refl _ _⟩

/-- a table that a call hands back -/
def RetTa (w : World) (R : List Row) (e : Ending) (w' : World) : Prop := ∃ v t, e = .returned v ∧ Below w.heap.size w w' ∧ TbAt w' v t ∧ t.map plR = R

set_option maxHeartbeats 4000000 in
set_option maxRecDepth 10000 in
theorem of_any (a b : Int) (v : Value) (t : List Rv) (R : List Row) (w : World) (h : TbAt w v t) (hR : t.map plR = R) (hz : Szd t 100 100) :
    Calls Tryz.prog 21 #[.agg #[.int .i64 a, .int .i64 b, .slice none 0 0], v] w (RetTa w (betw R a b)) := by
  obtain ⟨W, hW⟩ : ∃ W, W = w.alloc (.cells #[.int .i64 a, .int .i64 b, .slice none 0 0] 60) := ⟨_, rfl⟩
  have hbW : Below w.heap.size w W := by rw [hW]; exact below_alloc1 _ _
  have hX : Blk W w.heap.size 60 #[.int .i64 a, .int .i64 b, .slice none 0 0] := by rw [hW]; exact Blk.new _ _ _
  obtain ⟨c0, c1, c2⟩ := hX.c3
  have HX := Lib.hid hX
  have HB := Lib.hid (between_at a b (h.below hbW) hR hz (by decide) (by decide))
  have HBW := Lib.hid hbW
  obtain ⟨A, c, rfl, hlc, hcm⟩ := h.shape
  clear h hX hbW hR hz
  go_enter Tryz.func21, Tryz.ntmps21
  go_wp2_with fail
  rw [← hW]
  clear hW
  go_wp2_with fail
  refine HB.out.mono ?_
  rintro e W1 ⟨v1, t1, rfl, hb1, h1, m1, z1⟩
  obtain ⟨A1, d1, rfl, hl1, hm1⟩ := h1.shape
  unfold maxLen at hm1
  have HT := Lib.hid h1
  have HM := Lib.hid m1
  have HX1 := Lib.hid (HX.out.below hb1)
  have HB1 := Lib.hid (below_trans HBW.out hb1)
  have hn1 := z1.1
  obtain ⟨X, hXe⟩ : ∃ X, X = w.heap.size := ⟨_, rfl⟩
  rw [← hXe] at HX1
  clear h1 m1 HX c0 c1 c2 HB hb1 HBW z1
  go_wp2_with fail
  rw [← hXe] at *
  clear hXe
  go_loopw [5, 15] (fun d i wr => ∃ (k : Nat), k ≤ t1.length ∧ i = .int .i64 k ∧ Hid (NBuf W1 wr 50 2 d k (rcs (t1.take k)))) (fun _ i _ => t1.length - (intOf i).toNat)
  case atStart => exact ⟨0, Nat.zero_le _, rfl, Lib.hid (NBuf.nil (Below.refl _ _) _ _)⟩
  case round =>
    obtain ⟨k, hk, rfl, HNB⟩ := hrel
    obtain ⟨fA, fc, rfl, hfc⟩ := HNB.out.buf.shape
    have hbw := HNB.out.below
    by_cases hgo : k < t1.length
    · obtain ⟨⟨L, S, la, lc, sa, sc⟩, hx⟩ : ∃ x, t1[k]? = some x := ⟨_, List.getElem?_eq_getElem hgo⟩
      obtain ⟨xb, xo, rfl, x0, x1, hrx⟩ := (HT.out.below hbw).at_ hx
      dsimp only at x0 x1
      have hnx : rcs (t1.take k) ++ [.slice la L.length lc, .slice sa S.length sc] = rcs (t1.take (k + 1)) := by
        rw [List.take_add_one, hx, rcs_app]; rfl
      have HNX := Lib.hid hnx
      obtain ⟨wb, hwb⟩ : ∃ wb, wb = wr.alloc (.cells #[.slice la L.length lc, .slice sa S.length sc] 50) := ⟨_, rfl⟩
      have hb2 : Below wr.heap.size wr wb := by rw [hwb]; exact below_alloc1 _ _
      have hY : Blk wb wr.heap.size 50 #[.slice la L.length lc, .slice sa S.length sc] := by rw [hwb]; exact Blk.new _ _ _
      have HN2 := Lib.hid (HNB.out.then_below hb2)
      have HY := Lib.hid hY
      obtain ⟨y0, y1⟩ := hY.c2
      obtain ⟨c0, c1, c2⟩ := (HX1.out.below (below_trans hbw hb2)).c3
      clear hnx hx hrx HNB hY hbw
      go_upto_region 5 with fail
      rw [← hwb]
      obtain ⟨Y, hYe⟩ : ∃ Y, Y = wr.heap.size := ⟨_, rfl⟩
      rw [← hYe] at HY y0 y1 ⊢
      clear hwb hYe x0 x1 hb2
      go_wp2_with fail
      refine (match0_any la L.length lc wb).mono ?_
      rintro e w5 ⟨rfl, hb5⟩
      have HN5 := Lib.hid (HN2.out.then_below hb5)
      obtain ⟨z0, z1⟩ := (HY.out.below hb5).c2
      clear HN2 c0 c1 c2 y0 y1 hb5 HY
      go_wp2_with (at_builtin; refine wpList_append_nlit rfl (.tmp 24) (.tmp 26) 23 rfl mrow_ty rfl HN5.out rfl (by simp) rfl (by simp [Value.oneCell']) (by simp only [maxLen]; omega) (by omega) ?_; intro v3 w3 hn3 ha3; have HN3 := Lib.hid hn3; clear hn3 ha3)
      go_roundw
      case rel => exact ⟨k + 1, by omega, by go_num, Lib.hid (by have := HN3.out; rw [HNX.out] at this; exact this)⟩
      case measure => simp [intOf]; omega
    · obtain rfl : k = t1.length := by omega
      have hn := HNB.out
      rw [List.take_length] at hn
      have HN := Lib.hid hn
      clear hn HNB
      go_wp2_with fail
      go_ret
      exact ⟨_, t1, rfl, below_trans HB1.out hbw, ⟨HN.out.slice, fun x hx => ((HT.out.below hbw).2 x hx)⟩, HM.out⟩

/-- what an answer comes to: an error's number, or 0 -/
noncomputable def answersP (S : List Row) (P : List Pt) (low got : List Row) (a b : Int) : Int := if goodB got = false then 3 else if withinP (betw low a b) got = false then 5 else if withinP got (betw (addAll S P) a b) = false then 6 else 0
/-- what the third question comes to -/
def FinAn (wb : World) (g : Bool) (vs : Nat → Value) (w' : World) : Prop := vs 5 = .bool g ∧ Below wb.heap.size wb w'
theorem betw_szp {R : List Row} {n : Nat} (a b : Int) (h : SzP R n) : SzP (betw R a b) n := by
  refine ⟨Nat.le_trans (betw_len a b R) h.1, fun r hr => ?_⟩
  obtain ⟨x, hx, e1, e2, _⟩ := betw_mem hr
  have := h.2 x hx
  refine ⟨e1 ▸ this.1, ?_⟩
  rw [e2]
  exact Nat.le_trans (List.length_filter_le _ _) this.2

set_option maxHeartbeats 8000000 in
set_option maxRecDepth 10000 in
theorem answers_any (B : World) (X : Nat) (t : List Rv) (ps : List Pv) (m : Nat) (a b : Int) (lv gv : Value) (low got : List Rv) (w : World) (h : Lg B X t ps w) (hT : Tb (t.map plR)) (hz : SzP (t.map plR) m) (hps : ∀ p ∈ ps, IsL p.ls) (hm : m + ps.length ≤ 100) (hl : TbAt w lv low) (hlz : SzP (low.map plR) 100) (hg : TbAt w gv got) (hgn : got.length ≤ 1000000) (z : Int) (hzz : z = answersP (t.map plR) (ps.map plP) (low.map plR) (got.map plR) a b) :
    Calls Tryz.prog 20 #[.pointer (some ⟨X, 0, none⟩), .agg #[.int .i64 a, .int .i64 b, .slice none 0 0], lv, gv] w (RetBelow w (.int .i64 z)) := by
  obtain ⟨W, hW⟩ : ∃ W, W = w.alloc (.cells #[.int .i64 a, .int .i64 b, .slice none 0 0] 60) := ⟨_, rfl⟩
  have hbW : Below w.heap.size w W := by rw [hW]; exact below_alloc1 _ _
  have hX : Blk W w.heap.size 60 #[.int .i64 a, .int .i64 b, .slice none 0 0] := by rw [hW]; exact Blk.new _ _ _
  have HY := Lib.hid hX
  have HBW := Lib.hid hbW
  have HL := Lib.hid (h.below hbW)
  have HLO := Lib.hid (hl.below hbW)
  have HGO := Lib.hid (hg.below hbW)
  have HLZ := Lib.hid hlz
  have HT := Lib.hid hT
  have HZ := Lib.hid hz
  have HPS := Lib.hid hps
  have HG := Lib.hid (mgood_any gv got W HGO.out)
  obtain ⟨GA, gc, rfl, hgl, hgm⟩ := hg.shape
  obtain ⟨LA, lc, rfl, hll, hlm⟩ := hl.shape
  obtain ⟨N, hNN⟩ : ∃ N, N = got.map plR := ⟨_, rfl⟩
  have HNN := Lib.hid hNN
  obtain ⟨K, hK⟩ : ∃ K, K = low.map plR := ⟨_, rfl⟩
  have HK := Lib.hid hK
  obtain ⟨S, hS⟩ : ∃ S, S = t.map plR := ⟨_, rfl⟩
  have HS := Lib.hid hS
  obtain ⟨M, hM⟩ : ∃ M, M = addAll S (ps.map plP) := ⟨_, rfl⟩
  have HM := Lib.hid hM
  obtain ⟨g, hgg⟩ : ∃ g, g = goodB N := ⟨_, rfl⟩
  rw [← hNN, ← hgg] at HG
  rw [← hNN, ← hS, ← hK] at hzz
  unfold answersP at hzz
  rw [← hgg, ← hM] at hzz
  have HGG := Lib.hid hgg
  have HZZ := Lib.hid hzz
  obtain ⟨Y, hYe⟩ : ∃ Y, Y = w.heap.size := ⟨_, rfl⟩
  have HYE := Lib.hid hYe
  have HY2 : Hid (Blk W Y 60 #[.int .i64 a, .int .i64 b, .slice none 0 0]) := Lib.hid (by rw [hYe]; exact hX)
  clear h hT hz hps hlz hNN hS hM hgg hK hzz hl hg hX hbW HY hYe
  go_enter Tryz.func20, Tryz.ntmps20
  go_wp2_with fail
  rw [← hW]
  clear hW
  refine HG.out.mono ?_
  rintro e w1 ⟨rfl, hb⟩
  rw [← HYE.out]
  clear HG
  have hzz := HZZ.out
  clear HZZ
  rcases g with _ | _
  · rw [if_pos rfl] at hzz
    subst hzz
    go_wp2_with fail
    go_ret
    exact ⟨rfl, below_trans HBW.out hb⟩
  · rw [if_neg Bool.noConfusion] at hzz
    have HR := Lib.hid (goodB_rls HGG.out.symm)
    have HOF := Lib.hid (of_any a b _ low K w1 (HLO.out.below hb) HK.out.symm (by have := HLZ.out.szd; exact this))
    have HZZ := Lib.hid hzz
    obtain ⟨y0, y1, y2⟩ := (HY2.out.below hb).c3
    clear hzz
    go_wp2_with fail
    refine HOF.out.mono ?_
    rintro e w2 ⟨v2, t2, rfl, hb2, h2, m2⟩
    have hb3 := below_trans hb hb2
    have hwi := within_any _ _ t2 got w2 h2 (HGO.out.below hb3) (by rw [← HNN.out]; exact HR.out) hgn
    rw [m2, ← HNN.out] at hwi
    obtain ⟨g, hgg⟩ : ∃ g, g = withinP (betw K a b) N := ⟨_, rfl⟩
    rw [← hgg] at hwi
    have hzz := HZZ.out
    rw [← hgg] at hzz
    have HZ2 := Lib.hid hzz
    have HWI := Lib.hid hwi
    obtain ⟨A2, d2, rfl, _⟩ := h2.shape
    clear hwi hgg hzz HZZ HOF y0 y1 y2 h2 m2 hb2 hb
    go_wp2_with fail
    refine HWI.out.mono ?_
    rintro e wb ⟨rfl, hb4⟩
    have hb5 := below_trans hb3 hb4
    clear HWI hb3 hb4
    have hzz := HZ2.out
    clear HZ2
    rcases g with _ | _
    · rw [if_pos rfl] at hzz
      subst hzz
      go_wp2_with fail
      go_ret
      exact ⟨rfl, below_trans HBW.out hb5⟩
    · rw [if_neg Bool.noConfusion] at hzz
      obtain ⟨g, hgg⟩ : ∃ g, g = withinP N (betw M a b) := ⟨_, rfl⟩
      rw [← hgg] at hzz
      have HGQ := Lib.hid hgg
      have HZ3 := Lib.hid hzz
      have HSM := Lib.hid (show SzP M 100 by
        have h0 := HZ.out
        rw [← HS.out] at h0
        have h1 := h0.addAll (ps := ps.map plP) fun q hq => by
          obtain ⟨y, hy, rfl⟩ := List.mem_map.1 hq
          exact HPS.out y hy
        rw [List.length_map, ← HM.out] at h1
        exact h1.mono hm)
      have HTM := Lib.hid (show Tb M by
        have hst := HT.out
        rw [← HS.out] at hst
        rw [HM.out]; exact (add_spec _ hst).1)
      clear hzz hgg
      go_upto_region 5 with fail
      have hstT : ∀ k v w w', Below w.heap.size w w' → Dv.factOf ([(1, ((fun v => v = (.agg #[.int .i64 a, .int .i64 b, .slice none 0 0])), noFact, 1)), (3, ((fun v => ∃ A m c, v = .slice A m c), (fun v w' => ∃ t', TbAt w' v t' ∧ t'.map plR = M), 5)), (4, ((fun v => ∃ A m c, v = .slice A m c), (fun v w' => ∃ t', TbAt w' v t' ∧ t'.map plR = betw M a b), 5)), (5, ((fun v => ∃ q, v = .bool q), noFact, 5))] : List (Nat × Dv.Kp)) k v w → Dv.factOf ([(1, ((fun v => v = (.agg #[.int .i64 a, .int .i64 b, .slice none 0 0])), noFact, 1)), (3, ((fun v => ∃ A m c, v = .slice A m c), (fun v w' => ∃ t', TbAt w' v t' ∧ t'.map plR = M), 5)), (4, ((fun v => ∃ A m c, v = .slice A m c), (fun v w' => ∃ t', TbAt w' v t' ∧ t'.map plR = betw M a b), 5)), (5, ((fun v => ∃ q, v = .bool q), noFact, 5))] : List (Nat × Dv.Kp)) k v w' := Dv.fact_st (by
        simp only [List.forall_mem_cons, List.not_mem_nil, false_imp_iff, implies_true, and_true]
        refine ⟨?_, ?_, ?_, ?_⟩
        · exact fun _ _ _ _ _ => trivial
        · exact fun _ _ _ hb h => by obtain ⟨t', h1, h2⟩ := h; exact ⟨t', h1.below hb, h2⟩
        · exact fun _ _ _ hb h => by obtain ⟨t', h1, h2⟩ := h; exact ⟨t', h1.below hb, h2⟩
        · exact fun _ _ _ _ _ => trivial)
      have htrT : ∀ x ∈ ([(1, ((fun v => v = (.agg #[.int .i64 a, .int .i64 b, .slice none 0 0])), noFact, 1)), (3, ((fun v => ∃ A m c, v = .slice A m c), (fun v w' => ∃ t', TbAt w' v t' ∧ t'.map plR = M), 5)), (4, ((fun v => ∃ A m c, v = .slice A m c), (fun v w' => ∃ t', TbAt w' v t' ∧ t'.map plR = betw M a b), 5)), (5, ((fun v => ∃ q, v = .bool q), noFact, 5))] : List (Nat × Dv.Kp)), (([(1, ((fun v => v = (.agg #[.int .i64 a, .int .i64 b, .slice none 0 0])), noFact, 1)), (3, ((fun v => ∃ A m c, v = .slice A m c), (fun v w' => ∃ t', TbAt w' v t' ∧ t'.map plR = M), 5)), (4, ((fun v => ∃ A m c, v = .slice A m c), (fun v w' => ∃ t', TbAt w' v t' ∧ t'.map plR = betw M a b), 5)), (5, ((fun v => ∃ q, v = .bool q), noFact, 5))] : List (Nat × Dv.Kp)).lookup x.2.2.2).isSome = true := by
        simp only [List.forall_mem_cons, List.not_mem_nil, false_imp_iff, implies_true, and_true]
        exact ⟨by kernel_rfl, by kernel_rfl, by kernel_rfl, by kernel_rfl⟩
      refine Dv.wp_region_two (L := ([(1, ((fun v => v = (.agg #[.int .i64 a, .int .i64 b, .slice none 0 0])), noFact, 1)), (3, ((fun v => ∃ A m c, v = .slice A m c), (fun v w' => ∃ t', TbAt w' v t' ∧ t'.map plR = M), 5)), (4, ((fun v => ∃ A m c, v = .slice A m c), (fun v w' => ∃ t', TbAt w' v t' ∧ t'.map plR = betw M a b), 5)), (5, ((fun v => ∃ q, v = .bool q), noFact, 5))] : List (Nat × Dv.Kp))) (m := 5) (Fin := (FinAn wb g)) (by kernel_rfl) 28 (by kernel_rfl) rfl (by kernel_rfl) ?_ ?_ ?_
      · simp only [List.forall_mem_cons, List.not_mem_nil, false_imp_iff, implies_true, and_true]
        exact ⟨⟨_, rfl⟩, ⟨_, none, 0, 0, rfl⟩, ⟨_, none, 0, 0, rfl⟩, ⟨_, false, rfl⟩⟩
      · exact (fun vs vs' w' h hf => by unfold FinAn at hf ⊢; rw [← h 5 (by kernel_rfl) (by decide)]; exact hf)
      repeat (first
        | (refine Dv.Chain.step (v := ?_) (a' := ?_) rfl rfl rfl ?_ ?_ ?_
           rotate_left 2
           focus (intro w; go_simp; try with_reducible rfl)
           focus (simp only [Act.put, List.setIfInBounds_toArray, List.set_cons_succ, List.set_cons_zero]; try rfl))
        | (refine Dv.Chain.skip' (a' := ?_) rfl rfl rfl ?_ ?_
           rotate_left 1
           focus (simp only [Act.put, List.setIfInBounds_toArray, List.set_cons_succ, List.set_cons_zero]; try rfl)))
      refine Dv.XT.call (a' := ?_) _ _ rfl (by decide) hstT rfl rfl (fun wx hw hF => ?_) htrT ?_ ?_
      rotate_left 1
      focus
        obtain ⟨g0, g1, g2⟩ := Blk.c3 (HY2.out.below (below_trans hb5 hw)); go_simp; first | exact ⟨rfl, Below.refl _ _⟩ | exact Below.refl _ _
      focus (simp only [Act.put, List.setIfInBounds_toArray, List.set_cons_succ, List.set_cons_zero]; try rfl)
      repeat (first
        | (refine Dv.Chain.step (v := ?_) (a' := ?_) rfl rfl rfl ?_ ?_ ?_
           rotate_left 2
           focus (intro w; go_simp; try with_reducible rfl)
           focus (simp only [Act.put, List.setIfInBounds_toArray, List.set_cons_succ, List.set_cons_zero]; try rfl))
        | (refine Dv.Chain.skip' (a' := ?_) rfl rfl rfl ?_ ?_
           rotate_left 1
           focus (simp only [Act.put, List.setIfInBounds_toArray, List.set_cons_succ, List.set_cons_zero]; try rfl)))
      refine Dv.XT.make _ _ _ rfl (by decide) hstT rfl rfl (fun wx hw hF => ?_) htrT (fun v3 hv3 a' ha => ?_)
      focus
        go_simp
        with_reducible refine (may_any B X t ps m wx (HL.out.below (below_trans hb5 hw)) HT.out HZ.out HPS.out hm).mono ?_
        rintro e w' ⟨v, t', rfl, hb, ho, hmm⟩
        obtain ⟨A, c, rfl⟩ := ho.shape
        exact ⟨⟨_, _, _, rfl⟩, hb, t', ho.tb, by rw [hmm, HM.out, HS.out]⟩
      obtain ⟨A3, m3, c3, rfl⟩ := hv3
      simp only [Act.put, List.setIfInBounds_toArray, List.set_cons_succ, List.set_cons_zero] at ha
      subst ha
      repeat (first
        | (refine Dv.Chain.step (v := ?_) (a' := ?_) rfl rfl rfl ?_ ?_ ?_
           rotate_left 2
           focus (intro w; go_simp; try with_reducible rfl)
           focus (simp only [Act.put, List.setIfInBounds_toArray, List.set_cons_succ, List.set_cons_zero]; try rfl))
        | (refine Dv.Chain.skip' (a' := ?_) rfl rfl rfl ?_ ?_
           rotate_left 1
           focus (simp only [Act.put, List.setIfInBounds_toArray, List.set_cons_succ, List.set_cons_zero]; try rfl)))
      refine Dv.XT.make _ _ _ rfl (by decide) hstT rfl rfl (fun wx hw hF => ?_) htrT (fun v4 hv4 a' ha => ?_)
      focus
        have f3 : (fun v w' => ∃ t', TbAt w' v t' ∧ t'.map plR = M : Value → World → Prop) _ wx := hF 3 _ (by kernel_rfl) rfl (by kernel_rfl)
        obtain ⟨t', h1, h2⟩ := f3
        go_simp
        with_reducible refine (of_any a b _ t' M wx h1 h2 (by have := HSM.out; rw [← h2] at this; exact this.szd)).mono ?_
        rintro e w' ⟨v, t2, rfl, hb, ho, hmm⟩
        obtain ⟨A, c, rfl, _⟩ := ho.shape
        exact ⟨⟨_, _, _, rfl⟩, hb, t2, ho, hmm⟩
      obtain ⟨A4, m4, c4, rfl⟩ := hv4
      simp only [Act.put, List.setIfInBounds_toArray, List.set_cons_succ, List.set_cons_zero] at ha
      subst ha
      repeat (first
        | (refine Dv.Chain.step (v := ?_) (a' := ?_) rfl rfl rfl ?_ ?_ ?_
           rotate_left 2
           focus (intro w; go_simp; try with_reducible rfl)
           focus (simp only [Act.put, List.setIfInBounds_toArray, List.set_cons_succ, List.set_cons_zero]; try rfl))
        | (refine Dv.Chain.skip' (a' := ?_) rfl rfl rfl ?_ ?_
           rotate_left 1
           focus (simp only [Act.put, List.setIfInBounds_toArray, List.set_cons_succ, List.set_cons_zero]; try rfl)))
      refine Dv.XT.last _ _ _ rfl rfl (by kernel_rfl) rfl rfl (fun vs wx hw hF => ?_) (fun v5 hv5 a' ha => ?_)
      focus
        have f4 : (fun v w' => ∃ t', TbAt w' v t' ∧ t'.map plR = betw M a b : Value → World → Prop) _ wx := (hF 4 _ (by kernel_rfl) rfl).1 (by kernel_rfl)
        have q4 := (hF 4 _ (by kernel_rfl) rfl).2
        obtain ⟨t', h1, h2⟩ := f4
        have hsz := betw_szp a b HSM.out
        rw [← h2] at hsz
        have hl4 := hsz.1
        rw [List.length_map] at hl4
        have hcc := within_any (.slice GA got.length gc) _ got t' wx (HGO.out.below (below_trans hb5 hw)) h1 (by rw [h2]; exact (betw_spec a b HTM.out).1.rls) (by omega)
        rw [h2, ← HNN.out, ← HGQ.out] at hcc
        go_simp
        with_reducible refine hcc.mono ?_
        rintro e w' ⟨rfl, hb⟩
        refine ⟨by cases g <;> simp, ?_, below_trans hw hb⟩
        rw [Dv.updV_self]
      obtain ⟨q5, rfl⟩ := hv5
      simp only [Act.put, List.setIfInBounds_toArray, List.set_cons_succ, List.set_cons_zero] at ha
      subst ha
      repeat (first
        | (refine Dv.Chain.step (v := ?_) (a' := ?_) rfl rfl rfl ?_ ?_ ?_
           rotate_left 2
           focus (intro w; go_simp; try with_reducible rfl)
           focus (simp only [Act.put, List.setIfInBounds_toArray, List.set_cons_succ, List.set_cons_zero]; try rfl))
        | (refine Dv.Chain.skip' (a' := ?_) rfl rfl rfl ?_ ?_
           rotate_left 1
           focus (simp only [Act.put, List.setIfInBounds_toArray, List.set_cons_succ, List.set_cons_zero]; try rfl)))
      refine Dv.XT.end_ (by decide) (fun vs w10 hv hfin => ?_)
      have h5 := hfin.1
      rw [hv 5 _ rfl] at h5
      injection h5 with h5
      subst h5
      have hb6 := below_trans hb5 hfin.2
      have hzz := HZ3.out
      clear hfin hv HZ3 hb5
      rcases q5 with _ | _
      · rw [if_pos rfl] at hzz
        subst hzz
        go_wp2_with fail
        go_ret
        exact ⟨rfl, below_trans HBW.out hb6⟩
      · rw [if_neg Bool.noConfusion] at hzz
        subst hzz
        go_wp2_with fail
        go_ret
        exact ⟨rfl, below_trans HBW.out hb6⟩
end Go.Proofs.YtjklcojnbcemoaaGreatDoor
