/-
  Layer 6: the walks of label's String and Take.
-/
import Derived.Test.YtpjicajifdandaaDoorLabD
import Derived.Test.YtpjicajifdandaaDoorSbd
import Derived.Test.YtpjicajifdandaaDoorLib14
namespace Go.Proofs.YtpjicajifdandaaDoor
open Go.RowKit Go.Bar Go.Bar.Leb Go.Bar.Lab

theorem text_take_succ {l : List Pr} {k : Nat} {p : Pr} (h : l[k]? = some p) : Lab.text (l.take (k + 1)) = Lab.text (l.take k) ++ ((if k = 0 then [] else [44]) ++ Lab.one p) := by
  obtain ⟨h1, h2⟩ := List.getElem?_eq_some_iff.1 h
  rw [List.take_add_one, h]
  simp only [Option.toList_some]
  rw [text_snoc, List.length_take]
  rw [show min k l.length = k by omega]

theorem pair_str (p : Pr) : bs p.1 ++ ({ data := #[61] } : ByteArray) ++ bs p.2 = bs (p.1 ++ 61 :: p.2) := by
  show bs p.1 ++ bs [61] ++ bs p.2 = _
  rw [bs_append, bs_append]
  simp

set_option maxHeartbeats 4000000 in
set_option maxRecDepth 10000 in
theorem text_any6 (v : Value) (l : List Pr) (w : World) (h : PsAt w v l) (hl : l.length ≤ 1000) (hp : ∀ p ∈ l, p.1.length ≤ 1000000 ∧ p.2.length ≤ 1000000) :
    Calls Tryd.prog 23 #[v] w (RetBelow w (.string (bs (Lab.text l)))) := by
  obtain ⟨A, c, rfl, hlc, hcm⟩ := h.shape
  unfold maxLen at hcm
  have hst := SbAt.start w
  have HST := Lib.hid hst
  clear hst
  go_enter Tryd.func23, Tryd.ntmps23
  go_wp2_with fail
  go_loopw [8] (fun i wr => ∃ (k : Nat) (ys : List UInt8), k ≤ l.length ∧ i = .int .i64 k ∧ Hid (SbAt w wr w.heap.size ys) ∧ ys.length ≤ k * 2000020 ∧ Hid (ys = Lab.text (l.take k))) (fun i _ => l.length - (intOf i).toNat)
  case atStart => exact ⟨0, [], Nat.zero_le _, rfl, HST, by simp, Lib.hid rfl⟩
  case round =>
    obtain ⟨k, ys, hk, rfl, hsb, hyl, hy⟩ := hrel
    have hB := hsb.out.2
    by_cases hgo : k < l.length
    · obtain ⟨p, hpk⟩ : ∃ p, l[k]? = some p := ⟨_, List.getElem?_eq_getElem hgo⟩
      obtain ⟨b, o, rfl, hbb, g1, g2⟩ := (h.below hB).at_ hpk
      obtain ⟨hp1, hp2⟩ := hp p (List.mem_of_getElem? hpk)
      have HT := Lib.hid (text_take_succ hpk)
      have hck := Blk.new wr #[.string (bs p.1), .string (bs p.2)] 57
      have HS1 := Lib.hid (hsb.out.alloc (.cells #[.string (bs p.1), .string (bs p.2)] 57))
      clear hpk
      rcases k with _ | j
      · simp only [Nat.zero_mul, Nat.add_zero] at g1 g2
        go_wp2_with fail
        (with_reducible refine (sbString_of w _ ys (p.1 ++ 61 :: p.2) _ (pair_str p) _ HS1.out (by simp; omega)).mono ?_)
        rintro e w2 ⟨rfl, h2, _⟩
        have HS2 := Lib.hid h2
        clear h2
        go_wp2_with fail
        go_roundw
        case rel =>
          refine ⟨0 + 1, _, by omega, by go_num, HS2, by simp; omega, Lib.hid ?_⟩
          rw [HT.out, if_pos trivial, hy.out]
          simp [Lab.one]
        case measure => simp [intOf]; omega
      · have hj0 : decide (0 < ((j : Int) + 1)) = true := decide_eq_true (by omega)
        go_wp2_with fail
        refine (sbByte_any w _ ys 44 _ HS1.out (by omega)).mono ?_
        rintro e w2 ⟨rfl, h2, hf⟩
        have HS2 := Lib.hid h2
        have hck2 := hf.blk hck (by have := hsb.out.2.size; have := hsb.out.1.elim (·.lt) (·.lt); omega) (by decide)
        clear h2 hf
        have c0 := hck2.cell (i := 0) rfl
        have c1 := hck2.cell (i := 1) rfl
        clear hck hck2
        go_wp2_with fail
        (with_reducible refine (sbString_of w _ (ys ++ [44]) (p.1 ++ 61 :: p.2) _ (pair_str p) _ HS2.out (by simp; omega)).mono ?_)
        rintro e w3 ⟨rfl, h3, _⟩
        have HS3 := Lib.hid h3
        clear h3 c0 c1
        go_wp2_with fail
        go_roundw
        case rel =>
          refine ⟨j + 1 + 1, _, by omega, by go_num, HS3, by simp; omega, Lib.hid ?_⟩
          rw [HT.out, if_neg (by omega), hy.out]
          simp [Lab.one]
        case measure => simp [intOf]; omega
    · obtain rfl : k = l.length := by omega
      have hz : ys = Lab.text l := by rw [hy.out, List.take_length]
      have hst := sbText_any w _ ys wr hsb.out
      rw [hz] at hst
      have HST2 := Lib.hid hst
      clear hst hz hy
      go_wp2_with fail
      refine HST2.out.mono ?_
      rintro e w2 ⟨rfl, h2⟩
      go_wp2_with fail
      go_ret
      exact ⟨rfl, h2⟩

theorem snoc_val (ps : List Pr) (p : Pr) : pcs (ps ++ [p]) = pcs ps ++ [.string (bs p.1), .string (bs p.2)] := pcs_snoc ps p

/-- how taking goes on: these pairs have come -/
def TkS (s0 : List Pr × List UInt8 × Nat) (n : Nat) (s : List UInt8) (e : Nat) (ps : List Pr) : Prop :=
  if e = 0 then s0 = (if (tp n s).2.2 ≠ 0 then ([], [], (tp n s).2.2) else (ps ++ (tp n s).1, (tp n s).2.1, 0)) else s0 = ([], [], e)
theorem TkS.step {s0 : List Pr × List UInt8 × Nat} {n : Nat} {s a s1 b s2 : List UInt8} {ps : List Pr} (h : TkS s0 (n + 1) s 0 ps) (h1 : takeText s 40 = (a, s1, 0)) (h2 : takeText s1 40 = (b, s2, 0)) : TkS s0 n s2 0 (ps ++ [(a, b)]) := by
  unfold TkS at *
  rw [if_pos rfl] at *
  rw [h]
  simp only [tp, h1, h2]
  simp only [ne_eq, not_true, if_false]
  split
  · rename_i h3
    simp
  · rename_i h3
    simp
theorem TkS.bad1 {s0 : List Pr × List UInt8 × Nat} {n e1 : Nat} {s a s1 : List UInt8} {ps : List Pr} (h : TkS s0 (n + 1) s 0 ps) (h1 : takeText s 40 = (a, s1, e1)) (he : e1 ≠ 0) : s0 = ([], [], e1) := by
  unfold TkS at *
  rw [if_pos rfl] at h
  rw [h]
  simp [tp, h1, he]
theorem TkS.bad2 {s0 : List Pr × List UInt8 × Nat} {n e2 : Nat} {s a s1 b s2 : List UInt8} {ps : List Pr} (h : TkS s0 (n + 1) s 0 ps) (h1 : takeText s 40 = (a, s1, 0)) (h2 : takeText s1 40 = (b, s2, e2)) (he : e2 ≠ 0) : s0 = ([], [], e2) := by
  unfold TkS at *
  rw [if_pos rfl] at h
  rw [h]
  simp [tp, h1, h2, he]
theorem TkS.bad {s0 : List Pr × List UInt8 × Nat} {n e : Nat} (s : List UInt8) (ps : List Pr) (h : s0 = ([], [], e)) (he : e ≠ 0) : TkS s0 n s e ps := by
  unfold TkS; rw [if_neg he]; exact h
theorem TkS.end_ {s0 : List Pr × List UInt8 × Nat} {s : List UInt8} {ps : List Pr} (h : TkS s0 0 s 0 ps) : s0 = (ps, s, 0) := by
  unfold TkS at h
  simpa [tp] using h

theorem set_ty : ElemTy Tryd.prog 25 57 (.agg #[.string ByteArray.empty, .string ByteArray.empty]) 2 32 :=
  ⟨Tryd.underlying25, info_parts (show (Tryd.prog.info? 57).map (fun i => (i.zero, i.size, i.bytes)) = some (some (.agg #[.string ByteArray.empty, .string ByteArray.empty]), 2, 32) by kernel_rfl), rfl⟩

/-- what Take leaves -/
def RetTk (w : World) (s : List UInt8) (e : Ending) (w' : World) : Prop :=
  ∃ v l r c, Lab.take s = (l, r, c) ∧ e = .returned (.tuple #[v, .string (bs r), .int .i64 (c : Nat)]) ∧ NBuf w w' 57 2 v l.length (pcs l)

set_option maxHeartbeats 8000000 in
set_option maxRecDepth 10000 in
theorem take_any (s : List UInt8) (w : World) (hs : s.length ≤ 1000000000000) :
    Calls Tryd.prog 29 #[.string (bs s)] w (RetTk w s) := by
  obtain ⟨n, r, e, hm⟩ : ∃ n r e, takeMost s 8 = (n, r, e) := ⟨_, _, _, rfl⟩
  have hp := takeMost_prop s 8 (by omega)
  rw [hm] at hp
  simp only at hp
  have hn8 : e = 0 → n ≤ 8 := fun he => by
    subst he
    exact takeMost_le8 hm
  obtain ⟨s0, hs0⟩ : ∃ s0, s0 = (if e ≠ 0 then (([], [], e) : List Pr × List UInt8 × Nat) else if (tp n r).2.2 ≠ 0 then ([], [], (tp n r).2.2) else ((tp n r).1, (tp n r).2.1, 0)) := ⟨_, rfl⟩
  have htk : Lab.take s = if s0.2.2 ≠ 0 then ([], [], s0.2.2) else if chk s0.1 = true then s0 else ([], [], 3) := by
    unfold Lab.take
    rw [hm]
    simp only
    by_cases he : e = 0
    · subst he
      rw [if_neg (by simp)] at hs0
      rw [if_neg (by simp)]
      by_cases h2 : (tp n r).2.2 = 0
      · rw [if_neg (by simp [h2])] at hs0
        subst hs0
        simp [h2]
      · rw [if_pos h2] at hs0
        subst hs0
        simp [h2]
    · rw [if_pos he] at hs0 ⊢
      subst hs0
      simp [he]
  have hst : TkS s0 n r e [] := by
    unfold TkS
    split
    · rename_i he
      rw [hs0, if_neg (by simp [he])]
      rfl
    · rename_i he
      rw [hs0, if_pos he]
  have HM := Lib.hid (takeMost_of (bs s) 8 hm)
  have HTK := Lib.hid htk
  have HST := Lib.hid hst
  have HN8 := Lib.hid hn8
  have hrl : r.length ≤ s.length := hp.2.1
  clear hm hp hn8 htk hst hs0
  go_enter Tryd.func29, Tryd.ntmps29
  go_wp2_with fail
  refine (HM.out _ (by rw [bs_size]; unfold maxLen; omega) (by omega) (by omega)).mono ?_
  rintro e' w1 ⟨rfl, q, rfl⟩
  go_wp2_with fail
  go_loopw [5, 0, 6, 7] (fun a b c d wr => ∃ (n : Nat) (s' : List UInt8) (e : Nat) (ps : List Pr), a = .int .i64 n ∧ b = .string (bs s') ∧ c = .int .i64 e ∧ Hid (e = 0 → n ≤ 8 - ps.length ∧ ps.length ≤ 8) ∧ ps.length ≤ 9 ∧ s'.length ≤ s.length ∧ Hid (NBuf w wr 57 2 d ps.length (pcs ps)) ∧ Hid (TkS s0 n s' e ps) ∧ Hid (∀ p ∈ ps, p.1.length ≤ s.length)) (fun a _ _ _ _ => (intOf a).toNat)
  case atStart => exact ⟨n, r, e, [], rfl, rfl, rfl, Lib.hid (fun he => ⟨HN8.out he, by simp⟩), by simp, hrl, Lib.hid (NBuf.nil (below_draws _ _) _ _), HST, Lib.hid (by simp)⟩
  case round =>
    clear HN8 HST hrl
    obtain ⟨n, s', e, ps, rfl, rfl, rfl, hn8, hps, hsl, hnb, hts, hpl⟩ := hrel
    obtain ⟨A, c, rfl, hc⟩ := hnb.out.buf.shape
    by_cases he : e = 0
    · subst he
      rcases n with _ | n
      · have hs0 := hts.out.end_
        have hlk := lcheck_any _ ps wr hnb.out.slice (fun p hp => by have := hpl.out p hp; omega)
        by_cases hck : chk ps = true
        · have HTK2 := Lib.hid (show Lab.take s = (ps, s', 0) by rw [HTK.out, hs0]; simp [hck])
          rw [show errL ps = 0 by unfold errL; rw [if_pos hck]] at hlk
          have HK := Lib.hid hlk
          clear hs0 hlk hck
          go_wp2_with fail
          refine HK.out.mono ?_
          rintro e w2 ⟨rfl, hb⟩
          have HN4 := Lib.hid (hnb.out.then_below hb)
          clear hb
          go_wp2_with fail
          go_ret3
          exact ⟨_, _, _, _, HTK2.out, rfl, HN4.out⟩
        · have HTK2 := Lib.hid (show Lab.take s = ([], [], 3) by rw [HTK.out, hs0]; simp [hck])
          rw [show errL ps = 12 by unfold errL; rw [if_neg hck]] at hlk
          have HK := Lib.hid hlk
          clear hs0 hlk hck
          go_wp2_with fail
          refine HK.out.mono ?_
          rintro e w2 ⟨rfl, hb⟩
          have HN4 := Lib.hid (hnb.out.then_below hb)
          clear hb
          go_wp2_with fail
          go_ret3
          exact ⟨_, _, _, _, HTK2.out, rfl, NBuf.nil HN4.out.below _ _⟩
      · have hpl8 : ps.length < 8 := by have := hn8.out rfl; omega
        have hn7 : n ≤ 7 := by have := hn8.out rfl; omega
        have hnl : n + 1 + ps.length ≤ 8 := by have := hn8.out rfl; omega
        have h0 : decide (0 < ((n : Int) + 1)) = true := decide_eq_true (by omega)
        obtain ⟨x, s1, e1, h1⟩ : ∃ a b c, takeText s' 40 = (a, b, c) := ⟨_, _, _, rfl⟩
        obtain ⟨y, s2, e2, h2⟩ : ∃ a b c, takeText s1 40 = (a, b, c) := ⟨_, _, _, rfl⟩
        have hl1 := takeText_len (by omega) h1
        have hl2 := takeText_len (by omega) h2
        have T1 := Lib.hid (takeText_of (bs s') 40 h1)
        have T2 := Lib.hid (takeText_of (bs s1) 40 h2)
        have hwr := hnb.out.below.size
        by_cases he1 : e1 = 0
        · subst he1
          by_cases he2 : e2 = 0
          · subst he2
            have HT2 := Lib.hid (hts.out.step h1 h2)
            clear h1 h2
            go_wp2_with fail
            refine (T1.out _ (by rw [bs_size]; unfold maxLen; omega) (by omega) (by omega)).mono ?_
            rintro e' w2 ⟨rfl, q1, rfl⟩
            go_wp2_with fail
            refine (T2.out _ (by rw [bs_size]; unfold maxLen; omega) (by omega) (by omega)).mono ?_
            rintro e' w2 ⟨rfl, q2, rfl⟩
            have HN3 := Lib.hid (hnb.out.then_below ((((below_draws _ q1).after_alloc (.cells #[.string { data := #[] }, .string { data := #[] }] 57)).setCell (p := ⟨wr.heap.size, 0, none⟩) (Nat.le_refl _) (.string (bs x))).drewN' q2 |>.setCell (p := ⟨wr.heap.size, 1, none⟩) (Nat.le_refl _) (.string (bs y))))
            go_wp2_with (at_builtin; refine wpList_append_nlit rfl (.tmp 39) (.tmp 41) 25 rfl set_ty rfl HN3.out rfl (by simp) rfl (by simp [Value.oneCell']) (by simp only [maxLen]; omega) (by omega) ?_; intro v3 w3 hn3 _)
            have HN4 := Lib.hid hn3
            clear hn3 HN3
            go_roundw
            case rel => exact ⟨n, s2, 0, ps ++ [(x, y)], rfl, (by first | rfl | trivial), (by first | rfl | trivial), Lib.hid (fun _ => by rw [List.length_append]; simp; omega), by rw [List.length_append]; simp; omega, by omega, by rw [List.length_append, snoc_val]; exact HN4, HT2, Lib.hid (fun p hp => by rw [List.mem_append, List.mem_singleton] at hp; rcases hp with hp | rfl; exact hpl.out p hp; exact Nat.le_trans hl1.1 hsl)⟩
            case measure => simp [intOf]; try omega
          · have HT2 := Lib.hid (hts.out.bad2 h1 h2 he2)
            have HE := Lib.hid he2
            clear h1 h2 he2
            go_wp2_with fail
            refine (T1.out _ (by rw [bs_size]; unfold maxLen; omega) (by omega) (by omega)).mono ?_
            rintro e' w2 ⟨rfl, q1, rfl⟩
            go_wp2_with fail
            refine (T2.out _ (by rw [bs_size]; unfold maxLen; omega) (by omega) (by omega)).mono ?_
            rintro e' w2 ⟨rfl, q2, rfl⟩
            have HN3 := Lib.hid (hnb.out.then_below ((((below_draws _ q1).after_alloc (.cells #[.string { data := #[] }, .string { data := #[] }] 57)).setCell (p := ⟨wr.heap.size, 0, none⟩) (Nat.le_refl _) (.string (bs x))).drewN' q2 |>.setCell (p := ⟨wr.heap.size, 1, none⟩) (Nat.le_refl _) (.string (bs y))))
            go_wp2_with (at_builtin; refine wpList_append_nlit rfl (.tmp 39) (.tmp 41) 25 rfl set_ty rfl HN3.out rfl (by simp) rfl (by simp [Value.oneCell']) (by simp only [maxLen]; omega) (by omega) ?_; intro v3 w3 hn3 _)
            have HN4 := Lib.hid hn3
            clear hn3 HN3
            go_roundw
            case rel => exact ⟨n, s2, e2, ps ++ [(x, y)], rfl, rfl, rfl, Lib.hid (fun h => absurd h HE.out), by rw [List.length_append]; simp; omega, by omega, by rw [List.length_append, snoc_val]; exact HN4, Lib.hid (TkS.bad _ _ HT2.out HE.out), Lib.hid (fun p hp => by rw [List.mem_append, List.mem_singleton] at hp; rcases hp with hp | rfl; exact hpl.out p hp; exact Nat.le_trans hl1.1 hsl)⟩
            case measure => simp [intOf]; try omega
        · have HT2 := Lib.hid (hts.out.bad1 h1 he1)
          have HE := Lib.hid he1
          have hb : ((e1 : Int) == 0) = false := by rw [beq_eq_false_iff_ne]; omega
          clear h1 h2 he1
          go_wp2_with fail
          refine (T1.out _ (by rw [bs_size]; unfold maxLen; omega) (by omega) (by omega)).mono ?_
          rintro e' w2 ⟨rfl, q1, rfl⟩
          have HN3 := Lib.hid (hnb.out.then_below (((below_draws _ q1).after_alloc (.cells #[.string { data := #[] }, .string { data := #[] }] 57)).setCell (p := ⟨wr.heap.size, 0, none⟩) (Nat.le_refl _) (.string (bs x))))
          go_wp2_with (at_builtin; refine wpList_append_nlit rfl (.tmp 39) (.tmp 41) 25 rfl set_ty rfl HN3.out rfl (by simp) rfl (by simp [Value.oneCell']) (by simp only [maxLen]; omega) (by omega) ?_; intro v3 w3 hn3 _)
          have HN4 := Lib.hid hn3
          clear hn3 HN3
          go_roundw
          case rel => exact ⟨n, s1, e1, ps ++ [(x, [])], rfl, rfl, rfl, Lib.hid (fun h => absurd h HE.out), by rw [List.length_append]; simp; omega, by omega, by rw [List.length_append, snoc_val]; exact HN4, Lib.hid (TkS.bad _ _ HT2.out HE.out), Lib.hid (fun p hp => by rw [List.mem_append, List.mem_singleton] at hp; rcases hp with hp | rfl; exact hpl.out p hp; exact Nat.le_trans hl1.1 hsl)⟩
          case measure => simp [intOf]; try omega
    · have hts2 : s0 = ([], [], e) := by have := hts.out; unfold TkS at this; rwa [if_neg he] at this
      have htk2 : Lab.take s = ([], [], e) := by rw [HTK.out, hts2]; simp [he]
      have HTK2 := Lib.hid htk2
      have hb : ((e : Int) == 0) = false := by rw [beq_eq_false_iff_ne]; omega
      have hb2 : ((e : Int) != 0) = true := by rw [bne_iff_ne]; omega
      have hbl := hnb.out.below
      clear hts2 htk2 he
      rcases n with _ | n
      · go_wp2_with fail
        go_ret3
        exact ⟨_, _, _, _, HTK2.out, rfl, NBuf.nil hbl _ _⟩
      · have h0 : decide (0 < ((n : Int) + 1)) = true := decide_eq_true (by omega)
        go_wp2_with fail
        go_ret3
        exact ⟨_, _, _, _, HTK2.out, rfl, NBuf.nil hbl _ _⟩

end Go.Proofs.YtpjicajifdandaaDoor
