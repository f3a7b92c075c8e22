/-
  Layer 6: the walks of label's Compare and String.
-/
import Derived.Test.YtgabmfibfikdbaaGreatDoorZShelf
import Derived.Test.YtgabmfibfikdbaaGreatDoorZLib8
import Derived.Test.YtgabmfibfikdbaaGreatDoorZBokN
import Derived.Lib.Builder
import Derived.Lib.AppendStr
import Derived.Laws.Externs
import Derived.Test.YtgabmfibfikdbaaGreatDoorZLib11

namespace Go.Proofs.YtgabmfibfikdbaaGreatDoor
open Go.RowKit Go.Bar Go.Bar.Leb Go.Bar.Lab

set_option maxHeartbeats 1000000 in
theorem byBoth_any (p q : Pr) (w : World) : Calls Tryz.prog 78 #[.agg #[.string (bs p.1), .string (bs p.2)], .agg #[.string (bs q.1), .string (bs q.2)]] w
    (RetBelow w (.int .i64 (cmpP p q))) := by
  have hcon := compare_any p.1 q.1
  have hcon2 := compare_any p.2 q.2
  have hbl : Below w.heap.size w ((w.alloc (.cells #[.string (bs p.1), .string (bs p.2)] 128)).alloc (.cells #[.string (bs q.1), .string (bs q.2)] 128)) := below_trans (below_alloc1 _ _) (below_alloc1 _ _)
  unfold cmpP
  by_cases h0 : cmpB p.1 q.1 = 0
  · rw [if_neg (by omega)]
    rw [h0] at hcon
    have HC := Lib.hid hcon
    have HC2 := Lib.hid hcon2
    clear hcon hcon2 h0
    go_enter Tryz.func78, Tryz.ntmps78
    go_wp2_with fail
    refine (HC.out _).mono ?_
    rintro e w' ⟨rfl, rfl⟩
    go_wp2_with fail
    refine (HC2.out _).mono ?_
    rintro e w' ⟨rfl, rfl⟩
    go_wp2_with fail
    go_ret
    exact ⟨rfl, hbl⟩
  · rw [if_pos h0]
    have hb : (cmpB p.1 q.1 != 0) = true := by rw [bne_iff_ne]; exact h0
    obtain ⟨z, hz⟩ : ∃ z, cmpB p.1 q.1 = z := ⟨_, rfl⟩
    rw [hz] at hcon hb ⊢
    have HC := Lib.hid hcon
    clear hcon hcon2 h0 hz
    go_enter Tryz.func78, Tryz.ntmps78
    go_wp2_with fail
    refine (HC.out _).mono ?_
    rintro e w' ⟨rfl, rfl⟩
    go_wp2_with fail
    go_ret
    exact ⟨rfl, hbl⟩

theorem cmpL_step {a b : List Pr} {k : Nat} {p q : Pr} (ha : a[k]? = some p) (hb : b[k]? = some q) : cmpL (a.drop k) (b.drop k) = if cmpP p q ≠ 0 then cmpP p q else cmpL (a.drop (k + 1)) (b.drop (k + 1)) := by
  obtain ⟨h1, rfl⟩ := List.getElem?_eq_some_iff.1 ha
  obtain ⟨h2, rfl⟩ := List.getElem?_eq_some_iff.1 hb
  rw [List.drop_eq_getElem_cons h1, List.drop_eq_getElem_cons h2]
  rfl
theorem cmpL_right {a b : List Pr} {k : Nat} (ha : k < a.length) (hb : b.length ≤ k) : cmpL (a.drop k) (b.drop k) = 1 := by
  rw [List.drop_eq_getElem_cons ha, List.drop_of_length_le hb]
  rfl
theorem cmpL_end {a b : List Pr} : cmpL (a.drop a.length) (b.drop a.length) = if a.length < b.length then -1 else 0 := by
  rw [List.drop_length]
  split
  · rename_i h
    rw [List.drop_eq_getElem_cons h]
    rfl
  · rename_i h
    rw [List.drop_of_length_le (by omega)]
    rfl

set_option maxHeartbeats 4000000 in
set_option maxRecDepth 10000 in
theorem compareFunc_any (v v' : Value) (a b : List Pr) (w : World) (h : PsAt w v a) (h' : PsAt w v' b) :
    Calls Tryz.prog 77 #[v, v', .func (.func 78) #[] #[]] w (RetBelow w (.int .i64 (cmpL a b))) := by
  obtain ⟨A, c, rfl, hlc, hcm⟩ := h.shape
  obtain ⟨A', c', rfl, hlc', hcm'⟩ := h'.shape
  unfold maxLen at hcm hcm'
  obtain ⟨Z, hZ⟩ : ∃ Z, Z = cmpL a b := ⟨_, rfl⟩
  rw [← hZ]
  have HZ := Lib.hid hZ
  clear hZ
  go_enter Tryz.func77, Tryz.ntmps77
  go_wp2_with fail
  go_loopw [13] (fun i wr => ∃ k : Nat, k ≤ a.length ∧ i = .int .i64 k ∧ Below w.heap.size w wr ∧ Hid (Z = cmpL (a.drop k) (b.drop k))) (fun i _ => a.length - (intOf i).toNat)
  case atStart => exact ⟨0, Nat.zero_le _, rfl, Below.refl _ _, HZ⟩
  case round =>
    obtain ⟨k, hk, rfl, hbl, hz⟩ := hrel
    by_cases hgo : k < a.length
    · obtain ⟨p, hpk⟩ : ∃ p, a[k]? = some p := ⟨_, List.getElem?_eq_getElem hgo⟩
      obtain ⟨ba, oa, rfl, hba, g1, g2⟩ := (h.below hbl).at_ hpk
      by_cases hgb : k < b.length
      · obtain ⟨q, hqk⟩ : ∃ q, b[k]? = some q := ⟨_, List.getElem?_eq_getElem hgb⟩
        obtain ⟨bb, ob, rfl, hbb, f1, f2⟩ := (h'.below hbl).at_ hqk
        have hd : decide ((b.length : Int) ≤ (k : Int)) = false := decide_eq_false (by omega)
        have HS := Lib.hid (cmpL_step hpk hqk)
        have hc := byBoth_any p q
        clear hpk hqk
        have hbl2 : Below w.heap.size w ((wr.alloc (.cells #[.string (bs p.1), .string (bs p.2)] 128)).alloc (.cells #[.string (bs q.1), .string (bs q.2)] 128)) := below_trans (below_trans hbl (below_alloc1 _ _)) (below_alloc1 _ _)
        by_cases h0 : cmpP p q = 0
        · have hz2 : Z = cmpL (a.drop (k + 1)) (b.drop (k + 1)) := by rw [hz.out, HS.out, if_neg (by omega)]
          rw [h0] at hc
          have HC := Lib.hid hc
          have HZ2 := Lib.hid hz2
          clear hc hz2 h0 hz
          go_wp2_with fail
          refine (HC.out _).mono ?_
          rintro e w2 ⟨rfl, h2⟩
          have hbl3 := below_trans hbl2 h2
          clear h2
          go_wp2_with fail
          go_roundw
          case rel => exact ⟨k + 1, by omega, by go_num, hbl3, HZ2⟩
          case measure => simp [intOf]; omega
        · have hz2 : Z = cmpP p q := by rw [hz.out, HS.out, if_pos h0]
          have hb : (cmpP p q != 0) = true := by rw [bne_iff_ne]; exact h0
          rw [← hz2] at hc hb
          have HC := Lib.hid hc
          clear hc hz2 h0 hz
          go_wp2_with fail
          refine (HC.out _).mono ?_
          rintro e w2 ⟨rfl, h2⟩
          have hbl3 := below_trans hbl2 h2
          clear h2
          go_wp2_with fail
          go_ret
          exact ⟨rfl, hbl3⟩
      · have HZ2 := Lib.hid (show Z = 1 by rw [hz.out, cmpL_right hgo (by omega)])
        have hd : decide ((b.length : Int) ≤ (k : Int)) = true := decide_eq_true (by omega)
        clear hpk hz
        go_wp2_with fail
        go_ret
        exact ⟨by rw [HZ2.out]; rfl, below_trans hbl (below_alloc1 _ _)⟩
    · obtain rfl : k = a.length := by omega
      have hz2 := hz.out
      rw [cmpL_end] at hz2
      by_cases hlt : a.length < b.length
      · rw [if_pos hlt] at hz2
        have HZ2 := Lib.hid hz2
        clear hz2 hz
        go_wp2_with fail
        go_ret
        exact ⟨by rw [HZ2.out]; rfl, hbl⟩
      · rw [if_neg hlt] at hz2
        have HZ2 := Lib.hid hz2
        have hd : decide ((a.length : Int) < (b.length : Int)) = false := decide_eq_false (by omega)
        clear hz2 hz
        go_wp2_with fail
        go_ret
        exact ⟨by rw [HZ2.out]; rfl, hbl⟩

set_option maxHeartbeats 1000000 in
theorem lcompare_any (v v' : Value) (a b : List Pr) (w : World) (h : PsAt w v a) (h' : PsAt w v' b) :
    Calls Tryz.prog 38 #[v, v'] w (RetBelow w (.int .i64 (cmpL a b))) := by
  have hc := compareFunc_any v v' a b w h h'
  obtain ⟨Z, hZ⟩ : ∃ Z, cmpL a b = Z := ⟨_, rfl⟩
  rw [hZ] at hc ⊢
  have HC := Lib.hid hc
  clear hc hZ h h'
  go_enter Tryz.func38, Tryz.ntmps38
  go_wp2_with fail
  refine HC.out.mono ?_
  rintro e w2 ⟨rfl, h2⟩
  go_wp2_with fail
  go_ret
  exact ⟨rfl, h2⟩

end Go.Proofs.YtgabmfibfikdbaaGreatDoor

/-
  strings.Builder: the walks of copyCheck, WriteByte, WriteString at this dump; its String is the kit's.
-/
namespace Go.Proofs.YtgabmfibfikdbaaGreatDoor
open Go.RowKit Go.Bar

/-- what a write to the builder b leaves: all other blocks, but for bytes -/
def SbFr (b : Nat) (w w' : World) : Prop := ∀ k, k < w.heap.size → k ≠ b → (∀ cur fr, w.heap[k]? ≠ some (.cells cur 5 fr)) → w'.heap[k]? = w.heap[k]?
theorem SbFr.blk {b : Nat} {w w' : World} (h : SbFr b w w') {M : Nat} {T : TypeId} {cur : Array Value} (hb : Blk w M T cur) (hne : M ≠ b) (hT : T ≠ 5) : Blk w' M T cur :=
  (h M hb.lt hne (fun c fr hc => by unfold Blk at hb; rw [hb] at hc; injection hc with hc; injection hc with _ hc _; exact hT hc)).trans hb

end Go.Proofs.YtgabmfibfikdbaaGreatDoor

/-
  Layer 6: the walks of label's String and Take.
-/
namespace Go.Proofs.YtgabmfibfikdbaaGreatDoor
open Go.RowKit Go.Bar Go.Bar.Leb Go.Bar.Lab

theorem snoc_val (ps : List Pr) (p : Pr) : pcs (ps ++ [p]) = pcs ps ++ [.string (bs p.1), .string (bs p.2)] := pcs_snoc ps p

/-- how taking goes on: these pairs have come -/
def TkS (s0 : List Pr × List UInt8 × Nat) (n : Nat) (s : List UInt8) (e : Nat) (ps : List Pr) : Prop :=
  if e = 0 then s0 = (if (tp n s).2.2 ≠ 0 then ([], [], (tp n s).2.2) else (ps ++ (tp n s).1, (tp n s).2.1, 0)) else s0 = ([], [], e)
theorem TkS.step {s0 : List Pr × List UInt8 × Nat} {n : Nat} {s a s1 b s2 : List UInt8} {ps : List Pr} (h : TkS s0 (n + 1) s 0 ps) (h1 : takeText s 40 = (a, s1, 0)) (h2 : takeText s1 40 = (b, s2, 0)) : TkS s0 n s2 0 (ps ++ [(a, b)]) := by
  unfold TkS at *
  rw [if_pos rfl] at *
  rw [h]
  simp only [tp, h1, h2]
  simp only [ne_eq, not_true, if_false]
  split
  · rename_i h3
    simp
  · rename_i h3
    simp
theorem TkS.bad1 {s0 : List Pr × List UInt8 × Nat} {n e1 : Nat} {s a s1 : List UInt8} {ps : List Pr} (h : TkS s0 (n + 1) s 0 ps) (h1 : takeText s 40 = (a, s1, e1)) (he : e1 ≠ 0) : s0 = ([], [], e1) := by
  unfold TkS at *
  rw [if_pos rfl] at h
  rw [h]
  simp [tp, h1, he]
theorem TkS.bad2 {s0 : List Pr × List UInt8 × Nat} {n e2 : Nat} {s a s1 b s2 : List UInt8} {ps : List Pr} (h : TkS s0 (n + 1) s 0 ps) (h1 : takeText s 40 = (a, s1, 0)) (h2 : takeText s1 40 = (b, s2, e2)) (he : e2 ≠ 0) : s0 = ([], [], e2) := by
  unfold TkS at *
  rw [if_pos rfl] at h
  rw [h]
  simp [tp, h1, h2, he]
theorem TkS.bad {s0 : List Pr × List UInt8 × Nat} {n e : Nat} (s : List UInt8) (ps : List Pr) (h : s0 = ([], [], e)) (he : e ≠ 0) : TkS s0 n s e ps := by
  unfold TkS; rw [if_neg he]; exact h
theorem TkS.end_ {s0 : List Pr × List UInt8 × Nat} {s : List UInt8} {ps : List Pr} (h : TkS s0 0 s 0 ps) : s0 = (ps, s, 0) := by
  unfold TkS at h
  simpa [tp] using h

theorem set_ty : ElemTy Tryz.prog 43 128 (.agg #[.string ByteArray.empty, .string ByteArray.empty]) 2 32 :=
  ⟨Tryz.underlying43, info_parts (show (Tryz.prog.info? 128).map (fun i => (i.zero, i.size, i.bytes)) = some (some (.agg #[.string ByteArray.empty, .string ByteArray.empty]), 2, 32) by kernel_rfl), rfl⟩

/-- what Take leaves -/
def RetTk (w : World) (s : List UInt8) (e : Ending) (w' : World) : Prop :=
  ∃ v l r c, Lab.take s = (l, r, c) ∧ e = .returned (.tuple #[v, .string (bs r), .int .i64 (c : Nat)]) ∧ NBuf w w' 128 2 v l.length (pcs l)

set_option maxHeartbeats 8000000 in
set_option maxRecDepth 10000 in
theorem take_any (s : List UInt8) (w : World) (hs : s.length ≤ 1000000000000) :
    Calls Tryz.prog 76 #[.string (bs s)] w (RetTk w s) := by
  obtain ⟨n, r, e, hm⟩ : ∃ n r e, takeMost s 8 = (n, r, e) := ⟨_, _, _, rfl⟩
  have hp := takeMost_prop s 8 (by omega)
  rw [hm] at hp
  simp only at hp
  have hn8 : e = 0 → n ≤ 8 := fun he => by
    subst he
    exact takeMost_le8 hm
  obtain ⟨s0, hs0⟩ : ∃ s0, s0 = (if e ≠ 0 then (([], [], e) : List Pr × List UInt8 × Nat) else if (tp n r).2.2 ≠ 0 then ([], [], (tp n r).2.2) else ((tp n r).1, (tp n r).2.1, 0)) := ⟨_, rfl⟩
  have htk : Lab.take s = if s0.2.2 ≠ 0 then ([], [], s0.2.2) else if chk s0.1 = true then s0 else ([], [], 3) := by
    unfold Lab.take
    rw [hm]
    simp only
    by_cases he : e = 0
    · subst he
      rw [if_neg (by simp)] at hs0
      rw [if_neg (by simp)]
      by_cases h2 : (tp n r).2.2 = 0
      · rw [if_neg (by simp [h2])] at hs0
        subst hs0
        simp [h2]
      · rw [if_pos h2] at hs0
        subst hs0
        simp [h2]
    · rw [if_pos he] at hs0 ⊢
      subst hs0
      simp [he]
  have hst : TkS s0 n r e [] := by
    unfold TkS
    split
    · rename_i he
      rw [hs0, if_neg (by simp [he])]
      rfl
    · rename_i he
      rw [hs0, if_pos he]
  have HM := Lib.hid (takeMost_of (bs s) 8 hm)
  have HTK := Lib.hid htk
  have HST := Lib.hid hst
  have HN8 := Lib.hid hn8
  have hrl : r.length ≤ s.length := hp.2.1
  clear hm hp hn8 htk hst hs0
  go_enter Tryz.func76, Tryz.ntmps76
  go_wp2_with fail
  refine (HM.out _ (by rw [bs_size]; unfold maxLen; omega) (by omega) (by omega)).mono ?_
  rintro e' w1 ⟨rfl, q, rfl⟩
  go_wp2_with fail
  go_loopw [5, 0, 6, 7] (fun a b c d wr => ∃ (n : Nat) (s' : List UInt8) (e : Nat) (ps : List Pr), a = .int .i64 n ∧ b = .string (bs s') ∧ c = .int .i64 e ∧ Hid (e = 0 → n ≤ 8 - ps.length ∧ ps.length ≤ 8) ∧ ps.length ≤ 9 ∧ s'.length ≤ s.length ∧ Hid (NBuf w wr 128 2 d ps.length (pcs ps)) ∧ Hid (TkS s0 n s' e ps) ∧ Hid (∀ p ∈ ps, p.1.length ≤ s.length)) (fun a _ _ _ _ => (intOf a).toNat)
  case atStart => exact ⟨n, r, e, [], rfl, rfl, rfl, Lib.hid (fun he => ⟨HN8.out he, by simp⟩), by simp, hrl, Lib.hid (NBuf.nil (below_draws _ _) _ _), HST, Lib.hid (by simp)⟩
  case round =>
    clear HN8 HST hrl
    obtain ⟨n, s', e, ps, rfl, rfl, rfl, hn8, hps, hsl, hnb, hts, hpl⟩ := hrel
    obtain ⟨A, c, rfl, hc⟩ := hnb.out.buf.shape
    by_cases he : e = 0
    · subst he
      rcases n with _ | n
      · have hs0 := hts.out.end_
        have hlk := lcheck_any _ ps wr hnb.out.slice (fun p hp => by have := hpl.out p hp; omega)
        by_cases hck : chk ps = true
        · have HTK2 := Lib.hid (show Lab.take s = (ps, s', 0) by rw [HTK.out, hs0]; simp [hck])
          rw [show errL ps = 0 by unfold errL; rw [if_pos hck]] at hlk
          have HK := Lib.hid hlk
          clear hs0 hlk hck
          go_wp2_with fail
          refine HK.out.mono ?_
          rintro e w2 ⟨rfl, hb⟩
          have HN4 := Lib.hid (hnb.out.then_below hb)
          clear hb
          go_wp2_with fail
          go_ret3
          exact ⟨_, _, _, _, HTK2.out, rfl, HN4.out⟩
        · have HTK2 := Lib.hid (show Lab.take s = ([], [], 3) by rw [HTK.out, hs0]; simp [hck])
          rw [show errL ps = 12 by unfold errL; rw [if_neg hck]] at hlk
          have HK := Lib.hid hlk
          clear hs0 hlk hck
          go_wp2_with fail
          refine HK.out.mono ?_
          rintro e w2 ⟨rfl, hb⟩
          have HN4 := Lib.hid (hnb.out.then_below hb)
          clear hb
          go_wp2_with fail
          go_ret3
          exact ⟨_, _, _, _, HTK2.out, rfl, NBuf.nil HN4.out.below _ _⟩
      · have hpl8 : ps.length < 8 := by have := hn8.out rfl; omega
        have hn7 : n ≤ 7 := by have := hn8.out rfl; omega
        have hnl : n + 1 + ps.length ≤ 8 := by have := hn8.out rfl; omega
        have h0 : decide (0 < ((n : Int) + 1)) = true := decide_eq_true (by omega)
        obtain ⟨x, s1, e1, h1⟩ : ∃ a b c, takeText s' 40 = (a, b, c) := ⟨_, _, _, rfl⟩
        obtain ⟨y, s2, e2, h2⟩ : ∃ a b c, takeText s1 40 = (a, b, c) := ⟨_, _, _, rfl⟩
        have hl1 := takeText_len (by omega) h1
        have hl2 := takeText_len (by omega) h2
        have T1 := Lib.hid (takeText_of (bs s') 40 h1)
        have T2 := Lib.hid (takeText_of (bs s1) 40 h2)
        have hwr := hnb.out.below.size
        by_cases he1 : e1 = 0
        · subst he1
          by_cases he2 : e2 = 0
          · subst he2
            have HT2 := Lib.hid (hts.out.step h1 h2)
            clear h1 h2
            go_wp2_with fail
            refine (T1.out _ (by rw [bs_size]; unfold maxLen; omega) (by omega) (by omega)).mono ?_
            rintro e' w2 ⟨rfl, q1, rfl⟩
            go_wp2_with fail
            refine (T2.out _ (by rw [bs_size]; unfold maxLen; omega) (by omega) (by omega)).mono ?_
            rintro e' w2 ⟨rfl, q2, rfl⟩
            have HN3 := Lib.hid (hnb.out.then_below ((((below_draws _ q1).after_alloc (.cells #[.string { data := #[] }, .string { data := #[] }] 128)).setCell (p := ⟨wr.heap.size, 0, none⟩) (Nat.le_refl _) (.string (bs x))).drewN' q2 |>.setCell (p := ⟨wr.heap.size, 1, none⟩) (Nat.le_refl _) (.string (bs y))))
            go_wp2_with (at_builtin; refine wpList_append_nlit rfl (.tmp 39) (.tmp 41) 43 rfl set_ty rfl HN3.out rfl (by simp) rfl (by simp [Value.oneCell']) (by simp only [maxLen]; omega) (by omega) ?_; intro v3 w3 hn3 _)
            have HN4 := Lib.hid hn3
            clear hn3 HN3
            go_roundw
            case rel => exact ⟨n, s2, 0, ps ++ [(x, y)], rfl, (by first | rfl | trivial), (by first | rfl | trivial), Lib.hid (fun _ => by rw [List.length_append]; simp; omega), by rw [List.length_append]; simp; omega, by omega, by rw [List.length_append, snoc_val]; exact HN4, HT2, Lib.hid (fun p hp => by rw [List.mem_append, List.mem_singleton] at hp; rcases hp with hp | rfl; exact hpl.out p hp; exact Nat.le_trans hl1.1 hsl)⟩
            case measure => simp [intOf]; try omega
          · have HT2 := Lib.hid (hts.out.bad2 h1 h2 he2)
            have HE := Lib.hid he2
            clear h1 h2 he2
            go_wp2_with fail
            refine (T1.out _ (by rw [bs_size]; unfold maxLen; omega) (by omega) (by omega)).mono ?_
            rintro e' w2 ⟨rfl, q1, rfl⟩
            go_wp2_with fail
            refine (T2.out _ (by rw [bs_size]; unfold maxLen; omega) (by omega) (by omega)).mono ?_
            rintro e' w2 ⟨rfl, q2, rfl⟩
            have HN3 := Lib.hid (hnb.out.then_below ((((below_draws _ q1).after_alloc (.cells #[.string { data := #[] }, .string { data := #[] }] 128)).setCell (p := ⟨wr.heap.size, 0, none⟩) (Nat.le_refl _) (.string (bs x))).drewN' q2 |>.setCell (p := ⟨wr.heap.size, 1, none⟩) (Nat.le_refl _) (.string (bs y))))
            go_wp2_with (at_builtin; refine wpList_append_nlit rfl (.tmp 39) (.tmp 41) 43 rfl set_ty rfl HN3.out rfl (by simp) rfl (by simp [Value.oneCell']) (by simp only [maxLen]; omega) (by omega) ?_; intro v3 w3 hn3 _)
            have HN4 := Lib.hid hn3
            clear hn3 HN3
            go_roundw
            case rel => exact ⟨n, s2, e2, ps ++ [(x, y)], rfl, rfl, rfl, Lib.hid (fun h => absurd h HE.out), by rw [List.length_append]; simp; omega, by omega, by rw [List.length_append, snoc_val]; exact HN4, Lib.hid (TkS.bad _ _ HT2.out HE.out), Lib.hid (fun p hp => by rw [List.mem_append, List.mem_singleton] at hp; rcases hp with hp | rfl; exact hpl.out p hp; exact Nat.le_trans hl1.1 hsl)⟩
            case measure => simp [intOf]; try omega
        · have HT2 := Lib.hid (hts.out.bad1 h1 he1)
          have HE := Lib.hid he1
          have hb : ((e1 : Int) == 0) = false := by rw [beq_eq_false_iff_ne]; omega
          clear h1 h2 he1
          go_wp2_with fail
          refine (T1.out _ (by rw [bs_size]; unfold maxLen; omega) (by omega) (by omega)).mono ?_
          rintro e' w2 ⟨rfl, q1, rfl⟩
          have HN3 := Lib.hid (hnb.out.then_below (((below_draws _ q1).after_alloc (.cells #[.string { data := #[] }, .string { data := #[] }] 128)).setCell (p := ⟨wr.heap.size, 0, none⟩) (Nat.le_refl _) (.string (bs x))))
          go_wp2_with (at_builtin; refine wpList_append_nlit rfl (.tmp 39) (.tmp 41) 43 rfl set_ty rfl HN3.out rfl (by simp) rfl (by simp [Value.oneCell']) (by simp only [maxLen]; omega) (by omega) ?_; intro v3 w3 hn3 _)
          have HN4 := Lib.hid hn3
          clear hn3 HN3
          go_roundw
          case rel => exact ⟨n, s1, e1, ps ++ [(x, [])], rfl, rfl, rfl, Lib.hid (fun h => absurd h HE.out), by rw [List.length_append]; simp; omega, by omega, by rw [List.length_append, snoc_val]; exact HN4, Lib.hid (TkS.bad _ _ HT2.out HE.out), Lib.hid (fun p hp => by rw [List.mem_append, List.mem_singleton] at hp; rcases hp with hp | rfl; exact hpl.out p hp; exact Nat.le_trans hl1.1 hsl)⟩
          case measure => simp [intOf]; try omega
    · have hts2 : s0 = ([], [], e) := by have := hts.out; unfold TkS at this; rwa [if_neg he] at this
      have htk2 : Lab.take s = ([], [], e) := by rw [HTK.out, hts2]; simp [he]
      have HTK2 := Lib.hid htk2
      have hb : ((e : Int) == 0) = false := by rw [beq_eq_false_iff_ne]; omega
      have hb2 : ((e : Int) != 0) = true := by rw [bne_iff_ne]; omega
      have hbl := hnb.out.below
      clear hts2 htk2 he
      rcases n with _ | n
      · go_wp2_with fail
        go_ret3
        exact ⟨_, _, _, _, HTK2.out, rfl, NBuf.nil hbl _ _⟩
      · have h0 : decide (0 < ((n : Int) + 1)) = true := decide_eq_true (by omega)
        go_wp2_with fail
        go_ret3
        exact ⟨_, _, _, _, HTK2.out, rfl, NBuf.nil hbl _ _⟩

end Go.Proofs.YtgabmfibfikdbaaGreatDoor
