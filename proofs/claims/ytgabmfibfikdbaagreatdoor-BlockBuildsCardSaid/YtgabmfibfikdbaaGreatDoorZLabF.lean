/-
 Layer 6: the walks of label's String and Take.
-/
import Derived.Test.YtgabmfibfikdbaaGreatDoorZLabB
import Derived.Test.YtgabmfibfikdbaaGreatDoorZLib14
import Derived.Test.YtgabmfibfikdbaaGreatDoorZLib15
import Derived.Deep.QuietTactic
import Derived.BigQuiet
import Derived.IntWalk
import Derived.RangeFuncNested
import Derived.RangeFuncBound
import Derived.RangeFuncCalls
import Derived.Shelf.Abstract
import Derived.Shelf.AbstractIn
import Derived.Shelf.RegionOpen
import Derived.OwnWalkIn
import Derived.TacticsInMore
import Derived.LoopNIn
import Derived.LoopIn
import Derived.Test.YtgabmfibfikdbaaGreatDoorZBokM
import Derived.Test.YtgabmfibfikdbaaGreatDoorZLib8
import Derived.Test.YtgabmfibfikdbaaGreatDoorZLib12

set_option maxHeartbeats 32000000
set_option maxRecDepth 10000
namespace Go.Proofs.YtgabmfibfikdbaaGreatDoor
open Go.RowKit Go.Bar Go.Bar.Leb Go.Bar.Lab

theorem snoc_val (ps : List Pr) (p : Pr) : pcs (ps ++ [p]) = pcs ps ++ [.string (bs p.1), .string (bs p.2)] := pcs_snoc ps p

def TkS (s0 : List Pr × List UInt8 × Nat) (n : Nat) (s : List UInt8) (e : Nat) (ps : List Pr) : Prop :=
 if e = 0 then s0 = (if (tp n s).2.2 ≠ 0 then ([], [], (tp n s).2.2) else (ps ++ (tp n s).1, (tp n s).2.1, 0)) else s0 = ([], [], e)
theorem TkS.step {s0 : List Pr × List UInt8 × Nat} {n : Nat} {s a s1 b s2 : List UInt8} {ps : List Pr} (h : TkS s0 (n + 1) s 0 ps) (h1 : takeText s 40 = (a, s1, 0)) (h2 : takeText s1 40 = (b, s2, 0)) : TkS s0 n s2 0 (ps ++ [(a, b)]) := by
 unfold TkS at *
 rw [if_pos rfl] at *
 rw [h]
 simp only [tp, h1, h2]
 simp only [ne_eq, not_true, if_false]
 split
 ·rename_i h3
  simp
 ·rename_i h3
  simp
theorem TkS.bad1 {s0 : List Pr × List UInt8 × Nat} {n e1 : Nat} {s a s1 : List UInt8} {ps : List Pr} (h : TkS s0 (n + 1) s 0 ps) (h1 : takeText s 40 = (a, s1, e1)) (he : e1 ≠ 0) : s0 = ([], [], e1) := by
 unfold TkS at *
 rw [if_pos rfl] at h
 rw [h]
 simp [tp, h1, he]
theorem TkS.bad2 {s0 : List Pr × List UInt8 × Nat} {n e2 : Nat} {s a s1 b s2 : List UInt8} {ps : List Pr} (h : TkS s0 (n + 1) s 0 ps) (h1 : takeText s 40 = (a, s1, 0)) (h2 : takeText s1 40 = (b, s2, e2)) (he : e2 ≠ 0) : s0 = ([], [], e2) := by
 unfold TkS at *
 rw [if_pos rfl] at h
 rw [h]
 simp [tp, h1, h2, he]
theorem TkS.bad {s0 : List Pr × List UInt8 × Nat} {n e : Nat} (s : List UInt8) (ps : List Pr) (h : s0 = ([], [], e)) (he : e ≠ 0) : TkS s0 n s e ps := by
 unfold TkS; rw [if_neg he]; exact h
theorem TkS.end_ {s0 : List Pr × List UInt8 × Nat} {s : List UInt8} {ps : List Pr} (h : TkS s0 0 s 0 ps) : s0 = (ps, s, 0) := by
 unfold TkS at h
 simpa [tp] using h

theorem set_ty : ElemTy Tryz.prog 43 128 (.agg #[.string ByteArray.empty, .string ByteArray.empty]) 2 32 :=
 ⟨Tryz.underlying43, info_parts (show (Tryz.prog.info? 128).map (fun i => (i.zero, i.size, i.bytes)) = some (some (.agg #[.string ByteArray.empty, .string ByteArray.empty]), 2, 32) by kernel_rfl), rfl⟩

def RetTk (w : World) (s : List UInt8) (e : Ending) (w' : World) : Prop :=
 ∃ v l r c, Lab.take s = (l, r, c) /\ e = .returned (.tuple #[v, .string (bs r), .int .i64 (c : Nat)]) /\ NBuf w w' 128 2 v l.length (pcs l)

theorem take_any (s : List UInt8) (w : World) (hs : s.length <= 1000000000000) :
  Calls Tryz.prog 76 #[.string (bs s)] w (RetTk w s) := by
 obtain ⟨n, r, e, hm⟩ : ∃ n r e, takeMost s 8 = (n, r, e) := ⟨_, _, _, rfl⟩
 have hp := takeMost_prop s 8 (by omega)
 rw [hm] at hp
 simp only at hp
 have hn8 : e = 0 -> n <= 8 := fun he => by
  subst he
  exact takeMost_le8 hm
 obtain ⟨s0, hs0⟩ : ∃ s0, s0 = (if e ≠ 0 then (([], [], e) : List Pr × List UInt8 × Nat) else if (tp n r).2.2 ≠ 0 then ([], [], (tp n r).2.2) else ((tp n r).1, (tp n r).2.1, 0)) := ⟨_, rfl⟩
 have htk : Lab.take s = if s0.2.2 ≠ 0 then ([], [], s0.2.2) else if chk s0.1 = true then s0 else ([], [], 3) := by
  unfold Lab.take
  rw [hm]
  simp only
  by_cases he : e = 0
  ·subst he
   rw [if_neg (by simp)] at hs0
   rw [if_neg (by simp)]
   by_cases h2 : (tp n r).2.2 = 0
   ·rw [if_neg (by simp [h2])] at hs0
    subst hs0
    simp [h2]
   ·rw [if_pos h2] at hs0
    subst hs0
    simp [h2]
  ·rw [if_pos he] at hs0 ⊢
   subst hs0
   simp [he]
 have hst : TkS s0 n r e [] := by
  unfold TkS
  split
  ·rename_i he
   rw [hs0, if_neg (by simp [he])]
   rfl
  ·rename_i he
   rw [hs0, if_pos he]
 have HM := Lib.hid (takeMost_of (bs s) 8 hm)
 have HTK := Lib.hid htk
 have HST := Lib.hid hst
 have HN8 := Lib.hid hn8
 have hrl : r.length <= s.length := hp.2.1
 clear hm hp hn8 htk hst hs0
 go_enter Tryz.func76, Tryz.ntmps76
 go_wp2_with fail
 refine (HM.out _ (by rw [bs_size]; unfold maxLen; omega) (by omega) (by omega)).mono ?_
 rintro e' w1 ⟨rfl, q, rfl⟩
 go_wp2_with fail
 go_loopw [5, 0, 6, 7] (fun a b c d wr => ∃ (n : Nat) (s' : List UInt8) (e : Nat) (ps : List Pr), a = .int .i64 n /\ b = .string (bs s') /\ c = .int .i64 e /\ Hid (e = 0 -> n <= 8 - ps.length /\ ps.length <= 8) /\ ps.length <= 9 /\ s'.length <= s.length /\ Hid (NBuf w wr 128 2 d ps.length (pcs ps)) /\ Hid (TkS s0 n s' e ps) /\ Hid (∀ p ∈ ps, p.1.length <= s.length)) (fun a _ _ _ _ => (intOf a).toNat)
 case atStart => exact ⟨n, r, e, [], rfl, rfl, rfl, Lib.hid (fun he => ⟨HN8.out he, by simp⟩), by simp, hrl, Lib.hid (NBuf.nil (below_draws _ _) _ _), HST, Lib.hid (by simp)⟩
 case round =>
  clear HN8 HST hrl
  obtain ⟨n, s', e, ps, rfl, rfl, rfl, hn8, hps, hsl, hnb, hts, hpl⟩ := hrel
  obtain ⟨A, c, rfl, hc⟩ := hnb.out.buf.shape
  by_cases he : e = 0
  ·subst he
   rcases n with _ | n
   ·have hs0 := hts.out.end_
    have hlk := lcheck_any _ ps wr hnb.out.slice (fun p hp => by have := hpl.out p hp; omega)
    by_cases hck : chk ps = true
    ·have HTK2 := Lib.hid (show Lab.take s = (ps, s', 0) by rw [HTK.out, hs0]; simp [hck])
     rw [show errL ps = 0 by unfold errL; rw [if_pos hck]] at hlk
     have HK := Lib.hid hlk
     clear hs0 hlk hck
     go_wp2_with fail
     refine HK.out.mono ?_
     rintro e w2 ⟨rfl, hb⟩
     have HN4 := Lib.hid (hnb.out.then_below hb)
     clear hb
     go_wp2_with fail
     go_ret3
     exact ⟨_, _, _, _, HTK2.out, rfl, HN4.out⟩
    ·have HTK2 := Lib.hid (show Lab.take s = ([], [], 3) by rw [HTK.out, hs0]; simp [hck])
     rw [show errL ps = 12 by unfold errL; rw [if_neg hck]] at hlk
     have HK := Lib.hid hlk
     clear hs0 hlk hck
     go_wp2_with fail
     refine HK.out.mono ?_
     rintro e w2 ⟨rfl, hb⟩
     have HN4 := Lib.hid (hnb.out.then_below hb)
     clear hb
     go_wp2_with fail
     go_ret3
     exact ⟨_, _, _, _, HTK2.out, rfl, NBuf.nil HN4.out.below _ _⟩
   ·have hpl8 : ps.length < 8 := by have := hn8.out rfl; omega
    have hn7 : n <= 7 := by have := hn8.out rfl; omega
    have hnl : n + 1 + ps.length <= 8 := by have := hn8.out rfl; omega
    have h0 : decide (0 < ((n : Int) + 1)) = true := decide_eq_true (by omega)
    obtain ⟨x, s1, e1, h1⟩ : ∃ a b c, takeText s' 40 = (a, b, c) := ⟨_, _, _, rfl⟩
    obtain ⟨y, s2, e2, h2⟩ : ∃ a b c, takeText s1 40 = (a, b, c) := ⟨_, _, _, rfl⟩
    have hl1 := takeText_len (by omega) h1
    have hl2 := takeText_len (by omega) h2
    have T1 := Lib.hid (takeText_of (bs s') 40 h1)
    have T2 := Lib.hid (takeText_of (bs s1) 40 h2)
    have hwr := hnb.out.below.size
    by_cases he1 : e1 = 0
    ·subst he1
     by_cases he2 : e2 = 0
     ·subst he2
      have HT2 := Lib.hid (hts.out.step h1 h2)
      clear h1 h2
      go_wp2_with fail
      refine (T1.out _ (by rw [bs_size]; unfold maxLen; omega) (by omega) (by omega)).mono ?_
      rintro e' w2 ⟨rfl, q1, rfl⟩
      go_wp2_with fail
      refine (T2.out _ (by rw [bs_size]; unfold maxLen; omega) (by omega) (by omega)).mono ?_
      rintro e' w2 ⟨rfl, q2, rfl⟩
      have HN3 := Lib.hid (hnb.out.then_below ((((below_draws _ q1).after_alloc (.cells #[.string { data := #[] }, .string { data := #[] }] 128)).setCell (p := ⟨wr.heap.size, 0, none⟩) (Nat.le_refl _) (.string (bs x))).drewN' q2 |>.setCell (p := ⟨wr.heap.size, 1, none⟩) (Nat.le_refl _) (.string (bs y))))
      go_wp2_with (at_builtin; refine wpList_append_nlit rfl (.tmp 39) (.tmp 41) 43 rfl set_ty rfl HN3.out rfl (by simp) rfl (by simp [Value.oneCell']) (by simp only [maxLen]; omega) (by omega) ?_; intro v3 w3 hn3 _)
      have HN4 := Lib.hid hn3
      clear hn3 HN3
      go_roundw
      case rel => exact ⟨n, s2, 0, ps ++ [(x, y)], rfl, (by first | rfl | trivial), (by first | rfl | trivial), Lib.hid (fun _ => by rw [List.length_append]; simp; omega), by rw [List.length_append]; simp; omega, by omega, by rw [List.length_append, snoc_val]; exact HN4, HT2, Lib.hid (fun p hp => by rw [List.mem_append, List.mem_singleton] at hp; rcases hp with hp | rfl; exact hpl.out p hp; exact Nat.le_trans hl1.1 hsl)⟩
      case measure => simp [intOf]; try omega
     ·have HT2 := Lib.hid (hts.out.bad2 h1 h2 he2)
      have HE := Lib.hid he2
      clear h1 h2 he2
      go_wp2_with fail
      refine (T1.out _ (by rw [bs_size]; unfold maxLen; omega) (by omega) (by omega)).mono ?_
      rintro e' w2 ⟨rfl, q1, rfl⟩
      go_wp2_with fail
      refine (T2.out _ (by rw [bs_size]; unfold maxLen; omega) (by omega) (by omega)).mono ?_
      rintro e' w2 ⟨rfl, q2, rfl⟩
      have HN3 := Lib.hid (hnb.out.then_below ((((below_draws _ q1).after_alloc (.cells #[.string { data := #[] }, .string { data := #[] }] 128)).setCell (p := ⟨wr.heap.size, 0, none⟩) (Nat.le_refl _) (.string (bs x))).drewN' q2 |>.setCell (p := ⟨wr.heap.size, 1, none⟩) (Nat.le_refl _) (.string (bs y))))
      go_wp2_with (at_builtin; refine wpList_append_nlit rfl (.tmp 39) (.tmp 41) 43 rfl set_ty rfl HN3.out rfl (by simp) rfl (by simp [Value.oneCell']) (by simp only [maxLen]; omega) (by omega) ?_; intro v3 w3 hn3 _)
      have HN4 := Lib.hid hn3
      clear hn3 HN3
      go_roundw
      case rel => exact ⟨n, s2, e2, ps ++ [(x, y)], rfl, rfl, rfl, Lib.hid (fun h => absurd h HE.out), by rw [List.length_append]; simp; omega, by omega, by rw [List.length_append, snoc_val]; exact HN4, Lib.hid (TkS.bad _ _ HT2.out HE.out), Lib.hid (fun p hp => by rw [List.mem_append, List.mem_singleton] at hp; rcases hp with hp | rfl; exact hpl.out p hp; exact Nat.le_trans hl1.1 hsl)⟩
      case measure => simp [intOf]; try omega
    ·have HT2 := Lib.hid (hts.out.bad1 h1 he1)
     have HE := Lib.hid he1
     have hb : ((e1 : Int) == 0) = false := by rw [beq_eq_false_iff_ne]; omega
     clear h1 h2 he1
     go_wp2_with fail
     refine (T1.out _ (by rw [bs_size]; unfold maxLen; omega) (by omega) (by omega)).mono ?_
     rintro e' w2 ⟨rfl, q1, rfl⟩
     have HN3 := Lib.hid (hnb.out.then_below (((below_draws _ q1).after_alloc (.cells #[.string { data := #[] }, .string { data := #[] }] 128)).setCell (p := ⟨wr.heap.size, 0, none⟩) (Nat.le_refl _) (.string (bs x))))
     go_wp2_with (at_builtin; refine wpList_append_nlit rfl (.tmp 39) (.tmp 41) 43 rfl set_ty rfl HN3.out rfl (by simp) rfl (by simp [Value.oneCell']) (by simp only [maxLen]; omega) (by omega) ?_; intro v3 w3 hn3 _)
     have HN4 := Lib.hid hn3
     clear hn3 HN3
     go_roundw
     case rel => exact ⟨n, s1, e1, ps ++ [(x, [])], rfl, rfl, rfl, Lib.hid (fun h => absurd h HE.out), by rw [List.length_append]; simp; omega, by omega, by rw [List.length_append, snoc_val]; exact HN4, Lib.hid (TkS.bad _ _ HT2.out HE.out), Lib.hid (fun p hp => by rw [List.mem_append, List.mem_singleton] at hp; rcases hp with hp | rfl; exact hpl.out p hp; exact Nat.le_trans hl1.1 hsl)⟩
     case measure => simp [intOf]; try omega
  ·have hts2 : s0 = ([], [], e) := by have := hts.out; unfold TkS at this; rwa [if_neg he] at this
   have htk2 : Lab.take s = ([], [], e) := by rw [HTK.out, hts2]; simp [he]
   have HTK2 := Lib.hid htk2
   have hb : ((e : Int) == 0) = false := by rw [beq_eq_false_iff_ne]; omega
   have hb2 : ((e : Int) != 0) = true := by rw [bne_iff_ne]; omega
   have hbl := hnb.out.below
   clear hts2 htk2 he
   rcases n with _ | n
   ·go_wp2_with fail
    go_ret3
    exact ⟨_, _, _, _, HTK2.out, rfl, NBuf.nil hbl _ _⟩
   ·have h0 : decide (0 < ((n : Int) + 1)) = true := decide_eq_true (by omega)
    go_wp2_with fail
    go_ret3
    exact ⟨_, _, _, _, HTK2.out, rfl, NBuf.nil hbl _ _⟩

end Go.Proofs.YtgabmfibfikdbaaGreatDoor

set_option maxHeartbeats 32000000
set_option maxRecDepth 10000
namespace Go.Proofs.YtgabmfibfikdbaaGreatDoor
open Go.RowKit Go.Bar Go.Bar.Leb Go.Bar.Lab

attribute [local go_sem] Oper.semAt_some

theorem first_of : ∀ (l : List UInt8) (c : UInt8), Lib.indexByte l c = -1 /\ c ∉ l \/ ∃ k : Nat, Lib.indexByte l c = k /\ l[k]? = some c /\ c ∉ l.take k
 | [], c => .inl ⟨rfl, by simp⟩
 | b :: l, c => by
  unfold Lib.indexByte
  by_cases h : b = c
  ·subst h
   rw [if_pos (by simp)]
   exact .inr ⟨0, rfl, rfl, by simp⟩
  ·rw [if_neg (by simpa using h)]
   rcases first_of l c with ⟨h1, h2⟩ | ⟨k, h1, h2, h3⟩
   ·rw [h1]
    exact .inl ⟨rfl, by simp [h2]; exact fun e => h e.symm⟩
   ·rw [h1, if_neg (by simp)]
    exact .inr ⟨k + 1, by omega, by simpa using h2, by simp [h3]; exact fun e => h e.symm⟩
theorem split_at {l : List UInt8} {k : Nat} {c : UInt8} (h : l[k]? = some c) : l = l.take k ++ c :: l.drop (k + 1) := by
 obtain ⟨hl, hq⟩ := List.getElem?_eq_some_iff.1 h
 rw [<- hq, List.getElem_cons_drop, List.take_append_drop]

theorem liteCut_any (s : List UInt8) (w : World) (hs : s.length <= 1000000000000) :
  Calls Tryz.prog 137 #[.string (bs s), .string { data := #[61] }] w (Quiet w (match cutEq s with | some p => .tuple #[.string (bs p.1), .string (bs p.2), .bool true] | none => .tuple #[.string (bs s), .string (bs []), .bool false])) := by
 have hi := fun w => Tryz.stringslite_Index_one (bs s) 61 w
 rcases first_of s 61 with ⟨h1, h2⟩ | ⟨k, h1, h2, h3⟩
 ·rw [cutEq_none s h2]
  have hi2 : ∀ w, Calls Tryz.prog 150 #[.string (bs s), .string { data := #[61] }] w fun e w' => e = .returned (.int .i64 (-1)) /\ w = w' := fun w => (hi w).mono fun _ _ ⟨g1, g2⟩ => ⟨by rw [g1, bs_data, h1], g2.symm⟩
  have HI := Lib.hid hi2
  clear hi hi2 h1 h2
  go_enter Tryz.func137, Tryz.ntmps137
  go_wp2_with fail
  refine (HI.out _).mono ?_
  rintro e w' ⟨rfl, rfl⟩
  go_wp2_with fail
  go_ret3
  exact ⟨rfl, 0, rfl⟩
 ·have hc : cutEq s = some (s.take k, s.drop (k + 1)) := by
   conv => lhs; rw [split_at h2]
   exact cutEq_at _ _ h3
  rw [hc]
  have hkl : k < s.length := (List.getElem?_eq_some_iff.1 h2).1
  have hi2 : ∀ w, Calls Tryz.prog 150 #[.string (bs s), .string { data := #[61] }] w fun e w' => e = .returned (.int .i64 k) /\ w = w' := fun w => (hi w).mono fun _ _ ⟨g1, g2⟩ => ⟨by rw [g1, bs_data, h1], g2.symm⟩
  have HI := Lib.hid hi2
  have hs1 := fun w => slice_to (P := Tryz.prog) (t := 9) Tryz.underlying9 s k (by omega) w
  have hs2 := fun w => slice_from (P := Tryz.prog) (t := 9) Tryz.underlying9 s (k + 1) (by omega) w
  rw [show ((k + 1 : Nat) : Int) = (k : Int) + 1 by omega] at hs2
  have hkw : IntKind.i64.wrap ((k : Int) + 1) = (k : Int) + 1 := IntWalk.i64_in _ ⟨by omega, by omega⟩
  have hk1 : (0 : Int) <= (k : Int) + 1 := by omega
  clear hi hi2 h1 h2 h3 hc
  go_enter Tryz.func137, Tryz.ntmps137
  go_wp2_with fail
  refine (HI.out _).mono ?_
  rintro e w' ⟨rfl, rfl⟩
  go_wp2_with fail
  go_quiet (fail)
  go_wp2_with fail
  go_ret3
  exact ⟨rfl, _, rfl⟩

theorem cut1_any (s : List UInt8) (w : World) (hs : s.length <= 1000000000000) :
  Calls Tryz.prog 114 #[.string (bs s), .string { data := #[61] }] w (Quiet w (match cutEq s with | some p => .tuple #[.string (bs p.1), .string (bs p.2), .bool true] | none => .tuple #[.string (bs s), .string (bs []), .bool false])) := by
 have hl := liteCut_any s w hs
 rcases hc : cutEq s with _ | ⟨a, b⟩
 ·rw [hc] at hl
  have HL := Lib.hid hl
  clear hl hc
  go_enter Tryz.func114, Tryz.ntmps114
  go_wp2_with fail
  refine HL.out.mono ?_
  rintro e w' ⟨rfl, n, rfl⟩
  go_wp2_with fail
  go_ret3
  exact ⟨rfl, _, rfl⟩
 ·rw [hc] at hl
  have HL := Lib.hid hl
  clear hl hc
  go_enter Tryz.func114, Tryz.ntmps114
  go_wp2_with fail
  refine HL.out.mono ?_
  rintro e w' ⟨rfl, n, rfl⟩
  go_wp2_with fail
  go_ret3
  exact ⟨rfl, _, rfl⟩

structure SpB (w : World) (B : Nat) (rest : List UInt8) : Prop where
 b0 : Blk w B 9 #[.string (bs rest)]
 b1 : Blk w (B + 1) 9 #[.string { data := #[44] }]
 b2 : Blk w (B + 2) 3 #[.int .i64 0]
theorem SpB.below {w w' : World} {B : Nat} {rest : List UInt8} (h : SpB w B rest) (hb : Below w.heap.size w w') : SpB w' B rest := ⟨h.b0.below hb, h.b1.below hb, h.b2.below hb⟩
theorem SpB.kept {w w' : World} {B : Nat} {rest : List UInt8} (h : SpB w B rest) (hb : ∀ k, B <= k -> k < B + 3 -> w'.heap[k]? = w.heap[k]?) : SpB w' B rest := ⟨(hb B (by omega) (by omega)).trans h.b0, (hb (B + 1) (by omega) (by omega)).trans h.b1, (hb (B + 2) (by omega) (by omega)).trans h.b2⟩
theorem SpB.set {w : World} {B : Nat} {rest : List UInt8} (h : SpB w B rest) (r : List UInt8) : SpB (w.setCell ⟨B, 0, none⟩ (.string (bs r))) B r :=
 ⟨h.b0.set 0 _, h.b1.other (by omega) 0 _, h.b2.other (by omega) 0 _⟩
def leftOf (w : World) (B : Nat) : Nat := match w.cell? ⟨B, 0, none⟩ with | some (.string z) => z.size | _ => 0
theorem leftOf_eq {w : World} {B : Nat} {rest : List UInt8} (h : SpB w B rest) : leftOf w B = rest.length := by
 unfold leftOf
 rw [h.b0.cell (i := 0) rfl]
 rfl

theorem split_seq (s : List UInt8) (hs : s.length <= 1000000000000) (n : Nat) (hn : 1 <= n) (B : Nat) (w : World) (h : SpB w B s) :
  SeqB Fence.wide n Tryz.prog 147 #[.pointer (some ⟨B + 1, 0, none⟩), .pointer (some ⟨B, 0, none⟩), .pointer (some ⟨B + 2, 0, none⟩)] (fun x : { x : List UInt8 // x.length <= s.length } => #[.string (bs x.1)]) B (B + 3) (fun xs => xs.map (·.1) = commas s) (fun pre => pre.map (·.1) <+: commas s) (commas s).length w := fun l J Jx W hW hJs hY h0 => by
 have h := h.below hW
 have hi := fun (r : List UInt8) w => Tryz.strings_Index_one (bs r) 44 w
 have HI := Lib.hid hi
 clear hi
 refine callsIn_of_wp Tryz.func147 rfl trivial ?_ rfl
 simp only [Tryz.ntmps147, List.size_toArray, List.length_cons, List.length_nil, Nat.reduceAdd, Nat.reduceSub, Array.replicate_succ, Array.replicate_zero, List.push_toArray, List.append_toArray, List.nil_append, List.cons_append]
 have c1 := h.b1.cell (i := 0) rfl
 gi_wp2
 clear c1
 gi_loopw [7] (fun _ wr => ∃ (pre : List { x : List UInt8 // x.length <= s.length }) (rest : List UInt8), Hid (commas s = pre.map (·.1) ++ commas rest) /\ rest.length <= s.length /\ Hid (SpB wr B rest) /\ Hid (J pre wr)) (fun _ wr => leftOf wr B)
 case atStart => exact ⟨[], s, Lib.hid rfl, Nat.le_refl _, Lib.hid h, Lib.hid h0⟩
 case round =>
  obtain ⟨pre, rest, hc, hrl, hsp, hJ⟩ := hrel
  have a0 := hsp.out.b0.cell (i := 0) rfl
  have a1 := hsp.out.b1.cell (i := 0) rfl
  have a2 := hsp.out.b2.cell (i := 0) rfl
  rcases first_of rest 44 with ⟨h1, h2⟩ | ⟨k, h1, h2, h3⟩
  ·have hr := commas_none rest h2
   have hI2 : ∀ w, CallsIn Fence.wide (n - 1) Tryz.prog 149 #[.string (bs rest), .string { data := #[44] }] w fun e w' => e = .returned (.int .i64 (-1)) /\ w = w' := fun w => callsIn_wide.2 ((HI.out rest w).mono fun _ _ ⟨g1, g2⟩ => ⟨by rw [g1, bs_data, h1], g2.symm⟩)
   have hlen : pre.length < (commas s).length := by rw [hc.out, hr]; simp
   obtain ⟨fn, tmps, assign, body, hy, hR⟩ := hY pre ⟨rest, hrl⟩ wr hJ.out hlen
   have HR := Lib.hid hR
   have HI3 := Lib.hid hI2
   have HC := Lib.hid (show commas s = (pre ++ [(⟨rest, hrl⟩ : { x : List UInt8 // x.length <= s.length })]).map (·.1) by rw [hc.out, hr]; simp)
   clear h1 h2 hr hlen hI2 hR
   gi_wp2_with (refine ⟨trivial, ?_⟩; gi_at_call 149; refine (HI3.out _).mono ?_; rintro e w' ⟨rfl, rfl⟩)
   refine HR.out.mono ?_
   rintro e w' (⟨rfl, hJ1, hk1⟩ | ⟨rfl, hJx⟩)
   ·have HJ1 := Lib.hid hJ1
    clear hJ1 hk1
    gi_wp2
    go_end0
    exact ⟨⟨_, rfl⟩, .inl ⟨_, HC.out.symm, HJ1.out⟩⟩
   ·have HJ1 := Lib.hid hJx
    clear hJx
    gi_wp2
    go_end0
    exact ⟨⟨_, rfl⟩, .inr ⟨_, by rw [HC.out]; exact List.prefix_refl _, HJ1.out⟩⟩
  ·have hkl : k < rest.length := (List.getElem?_eq_some_iff.1 h2).1
   have hr : commas rest = rest.take k :: commas (rest.drop (k + 1)) := by
    conv => lhs; rw [split_at h2]
    exact commas_at _ _ h3
   have hI2 : ∀ w, CallsIn Fence.wide (n - 1) Tryz.prog 149 #[.string (bs rest), .string { data := #[44] }] w fun e w' => e = .returned (.int .i64 k) /\ w = w' := fun w => callsIn_wide.2 ((HI.out rest w).mono fun _ _ ⟨g1, g2⟩ => ⟨by rw [g1, bs_data, h1], g2.symm⟩)
   have hlen : pre.length < (commas s).length := by rw [hc.out, hr]; simp
   obtain ⟨fn, tmps, assign, body, hy, hR⟩ := hY pre ⟨rest.take k, by rw [List.length_take]; omega⟩ wr hJ.out hlen
   have HR := Lib.hid hR
   have HI3 := Lib.hid hI2
   have HC := Lib.hid (show commas s = (pre ++ [(⟨rest.take k, by rw [List.length_take]; omega⟩ : { x : List UInt8 // x.length <= s.length })]).map (·.1) ++ commas (rest.drop (k + 1)) by rw [hc.out, hr]; simp)
   have hs1 := fun w => slice_to (P := Tryz.prog) (t := 9) Tryz.underlying9 rest k (by omega) w
   have hs2 := fun w => slice_from (P := Tryz.prog) (t := 9) Tryz.underlying9 rest (k + 1) (by omega) w
   rw [show ((k + 1 : Nat) : Int) = (k : Int) + 1 by omega] at hs2
   have HS2 := Lib.hid hs2
   clear h1 h2 h3 hr hlen hI2 hR hs2
   gi_wp2_with (refine ⟨trivial, ?_⟩; gi_at_call 149; refine (HI3.out _).mono ?_; rintro e w' ⟨rfl, rfl⟩)
   refine HR.out.mono ?_
   rintro e w' (⟨rfl, hJ1, hk1⟩ | ⟨rfl, hJx⟩)
   ·have hsp1 := hsp.out.kept hk1
    have HJ1 := Lib.hid (hJs _ _ (.string (bs (rest.drop (k + 1)))) hJ1)
    have HSP := Lib.hid (hsp1.set (rest.drop (k + 1)))
    have a0' := hsp1.b0.cell (i := 0) rfl
    have f0' := hsp1.b0.free 0
    have a1' := hsp1.b1.cell (i := 0) rfl
    have hs2 := HS2.out
    have HLO := Lib.hid (leftOf_eq hsp.out)
    clear hJ1 hk1 hsp1 a0 a1 a2
    gi_wp2
    go_roundw
    case rel => exact ⟨_, _, HC, by rw [List.length_drop]; omega, HSP, HJ1⟩
    case measure =>
     rw [leftOf_eq HSP.out, HLO.out, List.length_drop]
     omega
   ·have HJ1 := Lib.hid hJx
    clear hJx
    gi_wp2
    refine bodyPost_ret (results_none rfl _ _ _) rfl ?_
    exact ⟨⟨_, rfl⟩, .inr ⟨_, by rw [HC.out]; exact List.prefix_append _ _, HJ1.out⟩⟩

theorem splitSeq_any (s : List UInt8) (w : World) :
  Calls Tryz.prog 113 #[.string (bs s), .string { data := #[44] }] w fun e w' => e = .returned (.func (.func 147) #[] #[.pointer (some ⟨w.heap.size + 1, 0, none⟩), .pointer (some ⟨w.heap.size, 0, none⟩), .pointer (some ⟨w.heap.size + 2, 0, none⟩)]) /\
   w' = ((w.alloc (.cells #[.string (bs s)] 9)).alloc (.cells #[.string { data := #[44] }] 9)).alloc (.cells #[.int .i64 0] 3) := by
 have h1 : ∀ w, Calls Tryz.prog 136 #[.string (bs s), .string { data := #[44] }, .int .i64 0] w fun e w' => e = .returned (.func (.func 147) #[] #[.pointer (some ⟨w.heap.size + 1, 0, none⟩), .pointer (some ⟨w.heap.size, 0, none⟩), .pointer (some ⟨w.heap.size + 2, 0, none⟩)]) /\
   w' = ((w.alloc (.cells #[.string (bs s)] 9)).alloc (.cells #[.string { data := #[44] }] 9)).alloc (.cells #[.int .i64 0] 3) := by
  intro w
  go_enter Tryz.func136, Tryz.ntmps136
  go_wp2_with fail
  go_ret
  exact ⟨rfl, rfl⟩
 have H1 := Lib.hid h1
 clear h1
 go_enter Tryz.func113, Tryz.ntmps113
 go_wp2_with fail
 refine (H1.out _).mono ?_
 rintro e w' ⟨rfl, rfl⟩
 go_wp2_with fail
 go_ret
 exact ⟨rfl, rfl⟩

end Go.Proofs.YtgabmfibfikdbaaGreatDoor

set_option maxHeartbeats 32000000
set_option maxRecDepth 10000
namespace Go.Proofs.YtgabmfibfikdbaaGreatDoor
open Go.RowKit Go.Bar Go.Bar.Leb Go.Bar.Lab
attribute [local go_sem] Oper.semAt_some

theorem pairsOf_snoc : ∀ (l : List (List UInt8)) (x : List UInt8) (ps : List Pr) (p : Pr), pairsOf l = some ps -> cutEq x = some p -> pairsOf (l ++ [x]) = some (ps ++ [p])
 | [], x, ps, p, h, hx => by
  simp [pairsOf] at h
  subst h
  simp [pairsOf, hx]
 | y :: l, x, ps, p, h, hx => by
  unfold pairsOf at h
  rw [List.cons_append, pairsOf]
  rcases hy : cutEq y with _ | q
  ·rw [hy] at h; simp at h
  ·rw [hy] at h
   simp only at h ⊢
   rcases hl : pairsOf l with _ | qs
   ·rw [hl] at h; simp at h
   ·rw [hl] at h
    simp at h
    subst h
    rw [pairsOf_snoc l x qs p hl hx]
    rfl
theorem pairsOf_mem : ∀ (l : List (List UInt8)) (x : List UInt8), x ∈ l -> cutEq x = none -> pairsOf l = none
 | [], _, h, _ => by cases h
 | y :: l, x, h, hx => by
  unfold pairsOf
  rcases List.mem_cons.1 h with rfl | h
  ·rw [hx]
  ·split
   ·rfl
   ·rw [pairsOf_mem l x h hx]; rfl
theorem cutEq_len : ∀ (x : List UInt8) (p : Pr), cutEq x = some p -> p.1.length <= x.length /\ p.2.length <= x.length
 | [], _, h => by simp [cutEq] at h
 | c :: x, p, h => by
  unfold cutEq at h
  split at h
  ·injection h with h; subst h; simp
  ·rcases hx : cutEq x with _ | q
   ·rw [hx] at h; simp at h
   ·rw [hx] at h
    simp at h
    subst h
    have := cutEq_len x q hx
    simp
    omega
theorem pairsOf_length : ∀ (l : List (List UInt8)) (ps : List Pr), pairsOf l = some ps -> ps.length = l.length
 | [], ps, h => by simp [pairsOf] at h; subst h; rfl
 | y :: l, ps, h => by
  unfold pairsOf at h
  rcases hy : cutEq y with _ | q
  ·rw [hy] at h; simp at h
  ·rw [hy] at h
   rcases hl : pairsOf l with _ | qs
   ·rw [hl] at h; simp at h
   ·rw [hl] at h
    simp at h
    subst h
    simp [pairsOf_length l qs hl]
theorem commas_length : ∀ s, (commas s).length <= s.length + 1
 | [] => by simp [commas]
 | c :: r => by
  have := commas_length r
  unfold commas
  split
  ·simp; omega
  ·split
   ·simp
   ·rename_i h t he
    rw [he] at this
    simp at this ⊢
    omega

theorem _root_.Go.KeepsOthers.drewN (W : World) (n : Nat) : KeepsOthers W (W.drewN n) := ⟨Nat.le_refl _, fun _ _ h _ => h⟩

theorem _root_.Go.Bar.Blk.new_at {w : World} {cur : Array Value} {T : TypeId} {k : Nat} (h : w.heap.size = k) : Blk (w.alloc (.cells cur T)) k T cur := h ▸ Blk.new w cur T

abbrev Part (s : List UInt8) := { x : List UInt8 // x.length <= s.length }
structure SpA (w : World) (B : Nat) : Prop where
 b0 : ∃ cur, Blk w B 9 cur
 b1 : ∃ cur, Blk w (B + 1) 9 cur
 b2 : ∃ cur, Blk w (B + 2) 3 cur
theorem SpA.turned {w w' : World} {B : Nat} {row : Option Nat} (h : SpA w B) (hg : w.grownBy w' row) (hr : ∀ r, row = some r -> ∃ o : Obj, w.heap[r]? = some o /\ o.isCells = false) : SpA w' B := by
 obtain ⟨⟨a, ha⟩, ⟨b, hb⟩, c, hc⟩ := h
 exact ⟨⟨a, ha.turned hg hr⟩, ⟨b, hb.turned hg hr⟩, c, hc.turned hg hr⟩
theorem SpA.set {w : World} {B : Nat} (h : SpA w B) (u : Value) : SpA (w.setCell ⟨B, 0, none⟩ u) B := by
 obtain ⟨⟨a, ha⟩, ⟨b, hb⟩, c, hc⟩ := h
 exact ⟨⟨_, ha.set 0 u⟩, ⟨b, hb.other (by omega) 0 u⟩, c, hc.other (by omega) 0 u⟩
theorem SpA.other {w : World} {B M : Nat} (h : SpA w B) (hM : M < B) (u : Value) : SpA (w.setCell ⟨M, 0, none⟩ u) B := by
 obtain ⟨⟨a, ha⟩, ⟨b, hb⟩, c, hc⟩ := h
 exact ⟨⟨_, ha.other (by omega) 0 u⟩, ⟨b, hb.other (by omega) 0 u⟩, c, hc.other (by omega) 0 u⟩
theorem SpA.ap {w w' : World} {B : Nat} (h : SpA w B) {sz n : Nat} {v : Value} {xs : List Value} (hb : Buf w 128 sz v n xs) (ha : Ap w w' sz v) : SpA w' B /\ ∀ k, B <= k -> k < B + 3 -> w'.heap[k]? = w.heap[k]? := by
 obtain ⟨⟨a, h0⟩, ⟨b, h1⟩, c, h2⟩ := h
 have g0 := h0.ap hb ha (by decide)
 have g1 := h1.ap hb ha (by decide)
 have g2 := h2.ap hb ha (by decide)
 refine ⟨⟨⟨_, g0⟩, ⟨_, g1⟩, _, g2⟩, fun k k1 k2 => ?_⟩
 have : k = B \/ k = B + 1 \/ k = B + 2 := by omega
 rcases this with rfl | rfl | rfl
 ·exact Eq.trans g0 (Eq.symm h0)
 ·exact Eq.trans g1 (Eq.symm h1)
 ·exact Eq.trans g2 (Eq.symm h2)
theorem SpA.below {w w' : World} {B : Nat} (h : SpA w B) (hb : Below w.heap.size w w') : SpA w' B := by
 obtain ⟨⟨a, ha⟩, ⟨b, hb1⟩, c, hc⟩ := h
 exact ⟨⟨_, ha.below hb⟩, ⟨b, hb1.below hb⟩, c, hc.below hb⟩

theorem _root_.Go.Bar.Blk.put {w : World} {M D : Nat} {T : TypeId} {cur : Array Value} (h : Blk w M T cur) (hD : w.heap[D]? = some (.deferred (some []))) : Blk (w.putObj D (.deferred none)) M T cur :=
 h.turned (grownBy_putObj' w D _) (fun r e => by cases e; exact ⟨_, hD, rfl⟩)
theorem _root_.Go.Bar.NBuf.put {w0 w : World} {D : Nat} {e : TypeId} {sz n : Nat} {v : Value} {xs : List Value} (h : NBuf w0 w e sz v n xs) (hD : w.heap[D]? = some (.deferred (some []))) (hle : w0.heap.size <= D) : NBuf w0 (w.putObj D (.deferred none)) e sz v n xs :=
 ⟨h.buf.turned (grownBy_putObj' w D _) (fun r e => by cases e; exact ⟨_, hD, rfl⟩), h.below.grown (grownBy_putObj' w D _) h.below.size (fun k e => by cases e; exact hle), h.new⟩

structure PI (w W : World) (s : List UInt8) (pre : List (Part s)) (v : Value) (ps : List Pr) : Prop where
 eq : pairsOf (pre.map (·.1)) = some ps
 r0 : Blk W w.heap.size 43 #[.slice none 0 0]
 r1 : Blk W (w.heap.size + 1) 26 #[.int .i64 0]
 l : Blk W (w.heap.size + 1 + 1) 22 #[v]
 b : SpA W (w.heap.size + 1 + 1 + 1)
 buf : NBuf w W 128 2 v ps.length (pcs ps)
 sm : ∀ p ∈ ps, p.1.length <= s.length /\ p.2.length <= s.length
structure PX (w W : World) (s : List UInt8) (pre : List (Part s)) : Prop where
 no : ∃ x ∈ pre.map (·.1), cutEq x = none
 r0 : Blk W w.heap.size 43 #[.slice none 0 0]
 r1 : Blk W (w.heap.size + 1) 26 #[.int .i64 3]
 bl : Below w.heap.size w W

def RetPs (w : World) (s : List UInt8) (e : Ending) (w' : World) : Prop := ∃ v, e = .returned (.tuple #[v, .int .i64 ((parse s).2 : Nat)]) /\ NBuf w w' 128 2 v (parse s).1.length (pcs (parse s).1)

theorem parse_any6 (s : List UInt8) (w : World) (hs : s.length <= 100000) :
  Calls Tryz.prog 94 #[.string (bs s)] w (RetPs w s) := by
 have hcl := commas_length s
 refine (callsIn_wide (n := 9)).1 ?_
 refine callsIn_of_wp_marks Tryz.func94 rfl trivial ?_ rfl
 simp only [Tryz.ntmps94, List.size_toArray, List.length_cons, List.length_nil, Nat.reduceAdd, Nat.reduceSub, Array.replicate_succ, Array.replicate_zero, List.push_toArray, List.append_toArray, List.nil_append, List.cons_append]
 gi_wp2_with (refine ⟨trivial, ?_⟩; gi_at_call 113; refine (callsIn_wide.2 (splitSeq_any s _)).mono ?_; rintro e w' ⟨rfl, rfl⟩)
 refine wpIn_rangeFunc_ownB (w0 := ((w.alloc (.cells #[.slice none 0 0] 43)).alloc (.cells #[.int .i64 0] 26)).alloc (.cells #[.slice none 0 0] 22) |>.alloc (.cells #[.string (bs s)] 9) |>.alloc (.cells #[.string { data := #[44] }] 9) |>.alloc (.cells #[.int .i64 0] 3)) rfl (by omega) (gf := 147) (lb := #[.pointer (some ⟨w.heap.size + 1 + 1 + 1 + 1, 0, none⟩), .pointer (some ⟨w.heap.size + 1 + 1 + 1, 0, none⟩), .pointer (some ⟨w.heap.size + 1 + 1 + 1 + 2, 0, none⟩)]) rfl trivial (enters_of Tryz.func147 (by kernel_rfl) rfl)
  (lo := w.heap.size + 1 + 1 + 1) (up := w.heap.size + 1 + 1 + 1 + 3) (by omega) (split_seq s (by omega) _ (by omega) (w.heap.size + 1 + 1 + 1) _ ?boxes) (by simp) (Below.refl _ _) (fun _ => rfl)
  (fun pre W => ∃ v ps, PI w W s pre v ps) (fun c pre W => c = .ret /\ PX w W s pre) ?own ?ownx ?store ?start
  (fun x => { tmps := #[.string (bs s), undef, .pointer (some ⟨w.heap.size, 0, none⟩), .pointer (some ⟨w.heap.size + 1, 0, none⟩), .pointer (some ⟨w.heap.size + 1 + 1, 0, none⟩), .string (bs x.1), undef, undef, undef, undef, undef, .string (bs s), .func (.func 147) #[] #[.pointer (some ⟨w.heap.size + 1 + 1 + 1 + 1, 0, none⟩), .pointer (some ⟨w.heap.size + 1 + 1 + 1, 0, none⟩), .pointer (some ⟨w.heap.size + 1 + 1 + 1 + 2, 0, none⟩)], .string (bs x.1), undef, undef, undef, undef, undef, undef, undef, undef, undef, undef, undef, undef, undef, undef, undef, undef, undef, undef, undef, undef, undef, undef, undef], defers := [] }) ?assign ?body ?done ?stop
 case boxes => exact ⟨((Blk.new_at (by simp)).alloc _).alloc _, (Blk.new_at (by simp)).alloc _, Blk.new_at (by simp)⟩
 case own =>
  rintro pre W W' row ⟨v, ps, h⟩ hg hr
  have hr2 : ∀ r, row = some r -> ∃ o : Obj, W.heap[r]? = some o /\ o.isCells = false := fun r e => (hr r e).2
  exact ⟨v, ps, h.eq, h.r0.turned hg hr2, h.r1.turned hg hr2, h.l.turned hg hr2, h.b.turned hg hr2, ⟨h.buf.buf.turned hg hr2, h.buf.below.grown hg h.buf.below.size (fun k e => by have := (hr k e).1; simp at this; omega), h.buf.new⟩, h.sm⟩
 case ownx =>
  rintro c pre W W' row ⟨hc, h⟩ hg hr
  have hr2 : ∀ r, row = some r -> ∃ o : Obj, W.heap[r]? = some o /\ o.isCells = false := fun r e => (hr r e).2
  exact ⟨hc, h.no, h.r0.turned hg hr2, h.r1.turned hg hr2, h.bl.grown hg h.bl.size (fun k e => by have := (hr k e).1; simp at this; omega)⟩
 case store =>
  rintro pre W u ⟨v, ps, h⟩
  obtain ⟨cur, hb⟩ := h.b.b0
  exact ⟨v, ps, h.eq, h.r0.other (by omega) 0 u, h.r1.other (by omega) 0 u, h.l.other (by omega) 0 u, h.b.set u, h.buf.set_ne hb (by decide) (by omega) 0 u, h.sm⟩
 case start =>
  exact ⟨.slice none 0 0, [], rfl, (((((Blk.new_at (by simp)).alloc _).alloc _).alloc _).alloc _).alloc _, ((((Blk.new_at (by simp)).alloc _).alloc _).alloc _).alloc _, (((Blk.new_at (by simp)).alloc _).alloc _).alloc _, ⟨⟨_, ((Blk.new_at (cur := #[.string (bs s)]) (by simp)).alloc _).alloc _⟩, ⟨_, (Blk.new_at (cur := #[.string { data := #[44] }]) (by simp)).alloc _⟩, _, Blk.new_at (cur := #[.int .i64 0]) (by simp)⟩, NBuf.nil ((((((below_alloc1 w _).alloc (by simp) _).alloc (by simp; omega) _).alloc (by simp; omega) _).alloc (by simp; omega) _).alloc (by simp; omega) _) _ _, by simp⟩
 case assign =>
  intro l x W K hK
  gi_wp2
  exact hK
 case body =>
  rintro l pre x W ⟨v, ps, hI⟩ hlt
  have r0 := hI.r0.cell (i := 0) rfl
  have q0 := hI.r0.free 0
  have r1 := hI.r1.cell (i := 0) rfl
  have q1 := hI.r1.free 0
  have r2 := hI.l.cell (i := 0) rfl
  have q2 := hI.l.free 0
  have hcut := fun W => cut1_any x.1 W (Nat.le_trans x.2 (by omega))
  rcases hc : cutEq x.1 with _ | p
  ·rw [hc] at hcut
   have HC := Lib.hid hcut
   clear hcut
   gi_wp2_with (refine ⟨trivial, ?_⟩; gi_at_call 114; refine (CallsIn.inRound l (callsIn_wide.2 (HC.out _))).mono ?_; rintro e w' ⟨rfl, q, rfl⟩)
   refine ⟨((KeepsOthers.drewN _ _).trans (KeepsOthers.setCell _ _ _)).trans (KeepsOthers.setCell _ _ _), rfl, ⟨x.1, by simp, hc⟩, ((hI.r0.drewN q).set 0 _).other (by omega) 0 _, ((hI.r1.drewN q).other (by omega) 0 _).set 0 _, ?_⟩
   exact ((hI.buf.below.drewN' q).setCell (p := ⟨w.heap.size, 0, none⟩) (Nat.le_refl _) _).setCell (p := ⟨w.heap.size + 1, 0, none⟩) (Nat.le_succ _) _
  ·rw [hc] at hcut
   have HC := Lib.hid hcut
   have hpl := pairsOf_length _ _ hI.eq
   rw [List.length_map] at hpl
   have hcp := cutEq_len _ _ hc
   have hx2 := x.2
   obtain ⟨bA, bc, rfl, hbc⟩ := hI.buf.buf.shape
   have HN := Lib.hid hI.buf
   have HI := Lib.hid hI
   have HPL := Lib.hid hpl
   have hps : ps.length <= 100001 := by omega
   clear hcut hI hpl
   gi_wp2_with (first
    | (refine ⟨trivial, ?_⟩; gi_at_call 114; refine (CallsIn.inRound l (callsIn_wide.2 (HC.out _))).mono ?_; rintro e w' ⟨rfl, q, rfl⟩)
    | (gi_at_builtin; refine wpListIn_append_nlit rfl (.tmp 22) (.tmp 26) 22 rfl pair_ty rfl (HN.out.drewN _) rfl (by simp) rfl (by simp [Value.oneCell']) (by simp only [maxLen]; omega) (by omega) ?_; intro v3 w3 hn3 ha3; have ha4 : Ap ((W.drewN q).alloc (.cells #[.string (bs p.1), .string (bs p.2)] 128)) w3 2 (.slice bA ps.length bc) := ha3; have hb4 := ((HN.out.drewN q).alloc (.cells #[.string (bs p.1), .string (bs p.2)] 128)).buf; have HL := Lib.hid (((HI.out.l.drewN q).alloc (.cells #[.string (bs p.1), .string (bs p.2)] 128)).ap hb4 ha4 (by decide)); have HA := Lib.hid ha4; have HB := Lib.hid hb4; have r3 := HL.out.cell (i := 0) rfl; have q3 := HL.out.free 0; have hn4 := hn3.buf.shape; obtain ⟨gA, gc, rfl, hgc⟩ := hn4; have HN3 := Lib.hid hn3; clear hn3 ha3 ha4 hb4))
   have hgr := (HI.out.b.below (((Below.refl _ _).drewN' q).alloc (Nat.le_refl _) (.cells #[.string (bs p.1), .string (bs p.2)] 128))).ap HB.out HA.out
   have hw3 : w.heap.size <= W.heap.size := HI.out.buf.below.size
   refine ⟨(((KeepsOthers.drewN W q).trans (KeepsOthers.alloc _ _)).trans HA.out.others).trans (KeepsOthers.setCell _ _ _), fun k k1 k2 => ?_, .slice gA (ps.length + 1) gc, ps ++ [p], ?_⟩
   ·rw [Below.heap_setCell w3 ⟨w.heap.size + 1 + 1, 0, none⟩ _ k (by show k ≠ w.heap.size + 1 + 1; omega), hgr.2 k k1 k2]
    exact Lib.alloc_old (W.drewN q) _ k (by
     have h3 := HI.out.b.b2
     obtain ⟨cur, h3⟩ := h3
     have := h3.lt
     show k < W.heap.size
     omega)
   ·refine ⟨?_, ?_, ?_, ?_, hgr.1.other (by omega) _, ?_, ?_⟩
    ·rw [List.map_append]
     exact pairsOf_snoc _ _ _ _ HI.out.eq hc
    ·exact (((HI.out.r0.drewN q).alloc _).ap HB.out HA.out (by decide)).other (by omega) 0 _
    ·exact (((HI.out.r1.drewN q).alloc _).ap HB.out HA.out (by decide)).other (by omega) 0 _
    ·exact HL.out.set 0 _
    ·rw [pcs_snoc, List.length_append]
     exact HN3.out.set_ne HL.out (by decide) (by omega) 0 _
    ·intro y hy
     rw [List.mem_append, List.mem_singleton] at hy
     rcases hy with hy | rfl
     ·exact HI.out.sm y hy
     ·exact ⟨Nat.le_trans hcp.1 hx2, Nat.le_trans hcp.2 hx2⟩
 case done =>
  rintro D xs W hD hS ⟨v, ps, hI⟩ hK
  have hpe := hI.eq
  rw [hS] at hpe
  have hps := pairsOf_length _ _ hpe
  have hD2 : w.heap.size + 6 <= D := by simpa using hD
  have hmk := make_any v ps W hI.buf.slice (by omega) (fun p hp => by have := (hI.sm p hp).1; omega)
  have hmk2 : Calls Tryz.prog 115 #[v] W fun e w' => ∃ v2 m, e = .returned (.tuple #[v2, .int .i64 (errL (sorted ps))]) /\ m.Perm ps /\ Asc m /\ NBuf W w' 128 2 v2 m.length (pcs m) := hmk.mono fun _ _ ⟨v2, m, g1, g2, g3, g4⟩ => ⟨v2, m, by rw [g1]; unfold errL; rw [chk_any g2 g3], g2, g3, g4⟩
  have r2 := hI.l.cell (i := 0) rfl
  have hpa : parse s = if chk (sorted ps) = true then (sorted ps, 0) else ([], 12) := by unfold parse; rw [hpe]
  have HI := Lib.hid hI
  have HPA := Lib.hid hpa
  have HK := Lib.hid hK
  by_cases hck : chk (sorted ps) = true
  ·rw [show errL (sorted ps) = 0 by unfold errL; rw [if_pos hck]] at hmk2
   have HM := Lib.hid hmk2
   have HCK := Lib.hid hck
   clear hmk hmk2 hI hpe hps hpa hck hK
   gi_wp2_with (refine ⟨trivial, ?_⟩; gi_at_call 115; refine (callsIn_wide.2 HM.out).mono ?_; rintro e W2 ⟨v2, m, rfl, hm1, hm2, hn⟩; obtain ⟨gA, gc, rfl, hgc⟩ := hn.buf.shape; have z0 := (HI.out.r0.below hn.below).cell (i := 0) rfl; have z0f := (HI.out.r0.below hn.below).free 0; have z1 := (HI.out.r1.below hn.below).cell (i := 0) rfl; have z1f := (HI.out.r1.below hn.below).free 0; have HN := Lib.hid hn; have HM1 := Lib.hid hm1; have HM2 := Lib.hid hm2; clear hn hm1 hm2)
   have hKD := HK.out
   have hDlt : D < W.heap.size := (Array.getElem?_eq_some_iff.1 hKD).1
   have y0 := ((HI.out.r0.below HN.out.below).set 0 (.slice gA m.length gc)).other (b := w.heap.size + 1) (by omega) 0 (.int .i64 0)
   have y1 := ((HI.out.r1.below HN.out.below).other (b := w.heap.size) (by omega) 0 (.slice gA m.length gc)).set 0 (.int .i64 0)
   have hm : m = sorted ps := sorted_of HM1.out HM2.out (ok_unlike (chk_iff.1 HCK.out))
   have hNF := ((HN.out.after HI.out.buf.below).set_ne (HI.out.r0.below HN.out.below) (by decide) (Nat.le_refl _) 0 (.slice gA m.length gc)).set_ne ((HI.out.r1.below HN.out.below).other (b := w.heap.size) (by omega) 0 (.slice gA m.length gc)) (by decide) (Nat.le_succ _) 0 (.int .i64 0)
   have hKF : ((W2.setCell ⟨w.heap.size, 0, none⟩ (.slice gA m.length gc)).setCell ⟨w.heap.size + 1, 0, none⟩ (.int .i64 0)).heap[D]? = some (.deferred (some [])) := by
    rw [Below.heap_setCell _ ⟨w.heap.size + 1, 0, none⟩ _ D (by show D ≠ w.heap.size + 1; omega), Below.heap_setCell _ ⟨w.heap.size, 0, none⟩ _ D (by show D ≠ w.heap.size; omega), HN.out.below.block D hDlt]
    exact hKD
   have x0 := (y0.put hKF).cell (i := 0) rfl
   have x1 := (y1.put hKF).cell (i := 0) rfl
   refine ⟨by simp, .inl ⟨_, _, rfl, run_takeDeferred hKF, ?_⟩⟩
   refine ⟨_, by simp [results, Tryz.results94, go_sem, x0, x1]; rfl, ?_⟩
   have hpr : parse s = (m, 0) := by rw [HPA.out, if_pos HCK.out, hm]
   refine ⟨.slice gA m.length gc, ?_, ?_⟩
   ·rw [hpr]; rfl
   ·rw [hpr]; exact hNF.put hKF (by omega)
  ·rw [show errL (sorted ps) = 12 by unfold errL; rw [if_neg hck]] at hmk2
   have HM := Lib.hid hmk2
   have HCK := Lib.hid hck
   clear hmk hmk2 hI hpe hps hpa hck hK
   gi_wp2_with (refine ⟨trivial, ?_⟩; gi_at_call 115; refine (callsIn_wide.2 HM.out).mono ?_; rintro e W2 ⟨v2, m, rfl, hm1, hm2, hn⟩; obtain ⟨gA, gc, rfl, hgc⟩ := hn.buf.shape; have z0 := (HI.out.r0.below hn.below).cell (i := 0) rfl; have z0f := (HI.out.r0.below hn.below).free 0; have z1 := (HI.out.r1.below hn.below).cell (i := 0) rfl; have z1f := (HI.out.r1.below hn.below).free 0; have HN := Lib.hid hn; have HM1 := Lib.hid hm1; have HM2 := Lib.hid hm2; clear hn hm1 hm2)
   have hKD := HK.out
   have hDlt : D < W.heap.size := (Array.getElem?_eq_some_iff.1 hKD).1
   have y0 := ((HI.out.r0.below HN.out.below).set 0 (.slice none 0 0)).other (b := w.heap.size + 1) (by omega) 0 (.int .i64 12)
   have y1 := ((HI.out.r1.below HN.out.below).other (b := w.heap.size) (by omega) 0 (.slice none 0 0)).set 0 (.int .i64 12)
   have hNF := ((HN.out.after HI.out.buf.below).set_ne (HI.out.r0.below HN.out.below) (by decide) (Nat.le_refl _) 0 (.slice none 0 0)).set_ne ((HI.out.r1.below HN.out.below).other (b := w.heap.size) (by omega) 0 (.slice none 0 0)) (by decide) (Nat.le_succ _) 0 (.int .i64 12)
   have hKF : ((W2.setCell ⟨w.heap.size, 0, none⟩ (.slice none 0 0)).setCell ⟨w.heap.size + 1, 0, none⟩ (.int .i64 12)).heap[D]? = some (.deferred (some [])) := by
    rw [Below.heap_setCell _ ⟨w.heap.size + 1, 0, none⟩ _ D (by show D ≠ w.heap.size + 1; omega), Below.heap_setCell _ ⟨w.heap.size, 0, none⟩ _ D (by show D ≠ w.heap.size; omega), HN.out.below.block D hDlt]
    exact hKD
   have x0 := (y0.put hKF).cell (i := 0) rfl
   have x1 := (y1.put hKF).cell (i := 0) rfl
   refine ⟨by simp, .inl ⟨_, _, rfl, run_takeDeferred hKF, ?_⟩⟩
   refine ⟨_, by simp [results, Tryz.results94, go_sem, x0, x1]; rfl, ?_⟩
   have hpr : parse s = ([], 12) := by rw [HPA.out, if_neg HCK.out]
   refine ⟨.slice none 0 0, ?_, ?_⟩
   ·rw [hpr]; rfl
   ·rw [hpr]; exact NBuf.nil (hNF.put hKF (by omega)).below _ _
 case stop =>
  rintro D c pre W hD hSp ⟨rfl, hX⟩ hK
  have hD2 : w.heap.size + 6 <= D := by simpa using hD
  obtain ⟨x, hx1, hx2⟩ := hX.no
  have hpr : parse s = ([], 3) := by
   unfold parse
   rw [pairsOf_mem (commas s) x (hSp.subset hx1) hx2]
  have x0 := (hX.r0.put hK).cell (i := 0) rfl
  have x1 := (hX.r1.put hK).cell (i := 0) rfl
  gi_wp2
  refine ⟨by simp, .inl ⟨_, _, rfl, run_takeDeferred hK, ?_⟩⟩
  refine ⟨_, by simp [results, Tryz.results94, go_sem, x0, x1]; rfl, ?_⟩
  refine ⟨.slice none 0 0, ?_, ?_⟩
  ·rw [hpr]; rfl
  ·rw [hpr]; exact NBuf.nil (NBuf.put (NBuf.nil hX.bl 128 2) hK (by omega)).below _ _

end Go.Proofs.YtgabmfibfikdbaaGreatDoor

set_option maxHeartbeats 32000000
set_option maxRecDepth 10000
namespace Go.Proofs.YtgabmfibfikdbaaGreatDoor
open Go.RowKit Go.Bar Go.Bar.Leb Go.Bar.Lab

theorem rletter_any (c : UInt8) (w : World) : Calls Tryz.prog 117 #[.int .u8 c.toNat] w fun e w' => e = .returned (.bool (letter c)) /\ w = w' := by
 rw [letter_nat]
 have hrng := byte_rng c
 rcases hrng with h1 | ⟨h1, h2⟩ | ⟨h1, h2⟩ | ⟨h1, h2⟩ | ⟨h1, h2, h3⟩ | h1 | ⟨h1, h2⟩ | h1
 case inr.inr.inr.inr.inr.inl =>
  rw [decide_eq_true (by omega)]
  have hne : ((c.toNat : Int) == 95) = true := by rw [beq_iff_eq]; exact h1
  have h2 : (c.toNat : Int) <= 95 := by omega
  have h3 : 95 <= (c.toNat : Int) := by omega
  clear h1
  go_enter Tryz.func117, Tryz.ntmps117
  go_wp2_with fail
  go_ret
  exact ⟨rfl, rfl⟩
 case inr.inr.inr.inl =>
  rw [decide_eq_true (by omega)]
  go_enter Tryz.func117, Tryz.ntmps117
  go_wp2_with fail
  go_ret
  exact ⟨rfl, rfl⟩
 case inr.inr.inr.inr.inr.inr.inl =>
  rw [decide_eq_true (by omega)]
  go_enter Tryz.func117, Tryz.ntmps117
  go_wp2_with fail
  go_ret
  exact ⟨rfl, rfl⟩
 all_goals
  rw [decide_eq_false (by omega)]
  have hne : ((c.toNat : Int) == 95) = false := by rw [beq_eq_false_iff_ne]; omega
  try (have hx3 : 65 <= (c.toNat : Int) := (by omega))
  try (have hx4 : decide ((c.toNat : Int) <= 90) = false := decide_eq_false (by omega))
  try (have hx5 : decide ((c.toNat : Int) <= 122) = false := decide_eq_false (by omega))
  go_enter Tryz.func117, Tryz.ntmps117
  go_wp2_with fail
  go_ret
  exact ⟨rfl, rfl⟩

theorem digit_cases {c : UInt8} : digit c = true /\ 48 <= (c.toNat : Int) /\ (c.toNat : Int) <= 57 \/ digit c = false /\ (c.toNat : Int) < 48 \/ digit c = false /\ 57 < (c.toNat : Int) /\ 48 <= (c.toNat : Int) := by
 rw [digit_nat]
 by_cases h1 : (c.toNat : Int) < 48
 ·exact .inr (.inl ⟨decide_eq_false (by omega), h1⟩)
 ·by_cases h2 : 57 < (c.toNat : Int)
  ·exact .inr (.inr ⟨decide_eq_false (by omega), h2, by omega⟩)
  ·exact .inl ⟨decide_eq_true (by omega), by omega, by omega⟩

theorem rname_any (l : List UInt8) (w : World) (hl : l.length <= 1000000000000) :
  Calls Tryz.prog 97 #[.string (bs l)] w fun e w' => e = .returned (.bool (nameB l)) /\ w = w' := by
 obtain ⟨Z, hZ⟩ : ∃ Z, Z = nameB l := ⟨_, rfl⟩
 rw [<- hZ]
 rcases l with _ | ⟨c0, r⟩
 ·have hz : Z = false := by rw [hZ]; rfl
  subst hz
  clear hZ
  go_enter Tryz.func97, Tryz.ntmps97
  go_wp2_with fail
  go_ret
  exact ⟨rfl, rfl⟩
 ·obtain ⟨l, hlr⟩ : ∃ l, l = c0 :: r := ⟨_, rfl⟩
  have hc0 : l[0]? = some c0 := by rw [hlr]; rfl
  have hne : l.isEmpty = false := by rw [hlr]; rfl
  have hpos : 0 < l.length := by rw [hlr]; simp
  have hne2 : (l == []) = false := by rw [beq_eq_false_iff_ne, hlr]; simp
  rw [<- hlr] at hZ hl ⊢
  clear hlr
  have hx0 := index_bs (P := Tryz.prog) Tryz.underlying9 .i64 l 0 0 c0 rfl hc0
  have hlt0 := rletter_any c0
  by_cases h40 : 40 < l.length
  ·have hz : Z = false := by rw [hZ]; unfold nameB; rw [decide_eq_false (by omega : ¬ l.length <= 40), Bool.and_false]
   subst hz
   clear hZ hx0 hlt0 hc0
   have hd : decide (40 < (l.length : Int)) = true := decide_eq_true (by omega)
   go_enter Tryz.func97, Tryz.ntmps97
   go_wp2_with fail
   go_ret
   exact ⟨rfl, rfl⟩
  ·have hd : decide (40 < (l.length : Int)) = false := decide_eq_false (by omega)
   rcases hl0 : letter c0 with _ | _
   ·have hz : Z = false := by
     rw [hZ]
     exact nameB_bad hc0 (by show signB true c0 = false; unfold signB; rw [hl0]; rfl)
    subst hz
    rw [hl0] at hlt0
    have HL := Lib.hid hlt0
    have HX0 := Lib.hid hx0
    clear hZ hlt0 hc0 hl0 hx0
    have hx0 := HX0.out
    go_enter Tryz.func97, Tryz.ntmps97
    go_wp2_with fail
    refine (HL.out _).mono ?_
    rintro e w' ⟨rfl, rfl⟩
    go_wp2_with fail
    go_ret
    exact ⟨rfl, rfl⟩
   ·rw [hl0] at hlt0
    have HL := Lib.hid hlt0
    have HZ := Lib.hid hZ
    have HC0 := Lib.hid hc0
    have HL0 := Lib.hid hl0
    have HNE := Lib.hid hne
    clear hZ hlt0 hc0 hl0
    go_enter Tryz.func97, Tryz.ntmps97
    go_wp2_with fail
    refine (HL.out _).mono ?_
    rintro e w' ⟨rfl, rfl⟩
    go_wp2_with fail
    clear hx0
    go_loop [3] (fun i => ∃ k : Nat, k <= l.length /\ i = .int .i64 k /\ Hid (signs l k)) (fun i => l.length - (intOf i).toNat)
    case atStart => exact ⟨0, Nat.zero_le _, rfl, Lib.hid (signs_zero l)⟩
    case round =>
     obtain ⟨k, hk, rfl, hsg⟩ := hrel
     by_cases hgo : k < l.length
     ·obtain ⟨c, hc⟩ : ∃ c, l[k]? = some c := ⟨_, List.getElem?_eq_getElem hgo⟩
      have hxk := index_bs (P := Tryz.prog) Tryz.underlying9 .i64 l (k : Int) k c rfl hc
      have hlt := rletter_any c
      have hfirst : k = 0 -> letter c = true := fun h => by
       subst h
       have := HC0.out
       rw [hc] at this
       injection this with this
       rw [this]
       exact HL0.out
      have hnb := fun h => nameB_bad (l := l) (k := k) hc h
      have hsc := fun h => signs_succ hsg.out hc h
      have hsgn : signB (k == 0) c = (letter c || (!(k == 0) && digit c)) := rfl
      rcases hlc : letter c with _ | _
      ·have hk0 : (k == 0) = false := by rw [beq_eq_false_iff_ne]; intro h; rw [hfirst h] at hlc; cases hlc
       rw [hlc, hk0] at hsgn
       rw [hlc] at hlt
       have HT := Lib.hid hlt
       have HXK := Lib.hid hxk
       rcases digit_cases (c := c) with ⟨hd1, hd2, hd3⟩ | ⟨hd1, hd2⟩ | ⟨hd1, hd2, hd3⟩
       ·have HSC := Lib.hid (hsc (by rw [hk0, hsgn, hd1]; rfl))
        clear hlt hxk hfirst hnb hsc hsgn hlc hk0 hd1 hc
        have hxk := HXK.out
        go_wp2_with fail
        refine (HT.out _).mono ?_
        rintro e w' ⟨rfl, rfl⟩
        go_wp2_with fail
        go_round
        case rel => exact ⟨k + 1, by omega, by go_num, HSC⟩
        case measure => simp [intOf]; omega
       all_goals
        have HNB := Lib.hid (hnb (by rw [hk0, hsgn, hd1]; rfl))
        clear hlt hxk hfirst hnb hsc hsgn hlc hk0 hd1 hc
        have hxk := HXK.out
        go_wp2_with fail
        refine (HT.out _).mono ?_
        rintro e w' ⟨rfl, rfl⟩
        go_wp2_with fail
        go_ret
        exact ⟨by rw [HZ.out, HNB.out]; rfl, rfl⟩
      ·rw [hlc] at hlt hsgn
       have HT := Lib.hid hlt
       have HXK := Lib.hid hxk
       have HSC := Lib.hid (hsc (by rw [hsgn]; rfl))
       clear hlt hxk hfirst hnb hsc hsgn hlc hc
       have hxk := HXK.out
       go_wp2_with fail
       refine (HT.out _).mono ?_
       rintro e w' ⟨rfl, rfl⟩
       go_wp2_with fail
       go_round
       case rel => exact ⟨k + 1, by omega, by go_num, HSC⟩
       case measure => simp [intOf]; omega
     ·obtain rfl : k = l.length := by omega
      have hz := HZ.out
      rw [nameB_signs hsg.out, HNE.out, decide_eq_true (by omega)] at hz
      have HZ2 := Lib.hid hz
      clear hz hgo
      go_wp2_with fail
      go_ret
      exact ⟨by rw [HZ2.out]; rfl, rfl⟩

end Go.Proofs.YtgabmfibfikdbaaGreatDoor

set_option maxHeartbeats 32000000
set_option maxRecDepth 10000
namespace Go.Proofs.YtgabmfibfikdbaaGreatDoor
open Go.RowKit Go.Bar Go.Bar.Leb Go.Bar.Lab

theorem rpair_ty : ElemTy Tryz.prog 60 146 (.agg #[.string ByteArray.empty, .string ByteArray.empty]) 2 32 :=
 ⟨Tryz.underlying60, info_parts (show (Tryz.prog.info? 146).map (fun i => (i.zero, i.size, i.bytes)) = some (some (.agg #[.string ByteArray.empty, .string ByteArray.empty]), 2, 32) by kernel_rfl), rfl⟩

def RetRN (w : World) (l : List Pr) (e : Ending) (w' : World) : Prop := ∃ v, e = .returned v /\ NBuf w w' 146 2 v l.length (pcs l)

theorem told_any6 (v : Value) (l : List Pr) (w : World) (h : PsAt w v l) (hl : l.length <= 1000000) :
  Calls Tryz.prog 54 #[v] w (RetRN w l) := by
 obtain ⟨A, c, rfl, hlc, hcm⟩ := h.shape
 unfold maxLen at hcm
 have HN0 := Lib.hid (NBuf.lit0 (Below.refl w.heap.size w) 146 2)
 go_enter Tryz.func54, Tryz.ntmps54
 go_wp2_with fail
 go_loopw [9, 3] (fun i d wr => ∃ k : Nat, k <= l.length /\ i = .int .i64 k /\ Hid (NBuf w wr 146 2 d k (pcs (l.take k)))) (fun i _ _ => l.length - (intOf i).toNat)
 case atStart => exact ⟨0, Nat.zero_le _, rfl, HN0⟩
 case round =>
  obtain ⟨k, hk, rfl, hnb⟩ := hrel
  obtain ⟨fA, fc, rfl, hfc⟩ := hnb.out.buf.shape
  by_cases hgo : k < l.length
  ·obtain ⟨p, hpk⟩ : ∃ p, l[k]? = some p := ⟨_, List.getElem?_eq_getElem hgo⟩
   obtain ⟨b, o, rfl, hbb, g1, g2⟩ := (h.below hnb.out.below).at_ hpk
   have HN1 := Lib.hid (hnb.out.alloc (.cells #[.string (bs p.1), .string (bs p.2)] 128))
   have HPK := Lib.hid hpk
   clear hpk
   go_wp2_with (at_builtin; refine wpList_append_nlit rfl (.tmp 13) (.tmp 15) 60 rfl rpair_ty rfl HN1.out rfl (by simp) rfl (by simp [Value.oneCell']) (by simp only [maxLen]; omega) (by omega) ?_; intro v3 w3 hn3 _; have HN3 := Lib.hid hn3; clear hn3)
   go_roundw
   case rel =>
    refine ⟨k + 1, by omega, by go_num, Lib.hid ?_⟩
    rw [List.take_add_one, HPK.out, pcs_append]
    exact HN3.out
   case measure => simp [intOf]; omega
  ·obtain rfl : k = l.length := by omega
   have hn := hnb.out
   rw [List.take_length] at hn
   have HN := Lib.hid hn
   clear hn hgo
   go_wp2_with fail
   go_ret
   exact ⟨_, rfl, HN.out⟩

end Go.Proofs.YtgabmfibfikdbaaGreatDoor
