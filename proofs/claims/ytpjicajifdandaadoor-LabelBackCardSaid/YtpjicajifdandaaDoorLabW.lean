/-
  Layer 6: the walk of the reference's Take.
-/
import Derived.Test.YtpjicajifdandaaDoorLabV
import Derived.Test.YtpjicajifdandaaDoorLabF
namespace Go.Proofs.YtpjicajifdandaaDoor
open Go.RowKit Go.Bar Go.Bar.Leb Go.Bar.Lab

/-- what the reference's Take leaves -/
def RetRTk (w : World) (s : List UInt8) (e : Ending) (w' : World) : Prop :=
  ∃ v l r c, Lab.take s = (l, r, c) ∧ e = .returned (.tuple #[v, .string (bs r), .int .i64 (c : Nat)]) ∧ NBuf w w' 61 2 v l.length (pcs l)

set_option maxHeartbeats 8000000 in
set_option maxRecDepth 10000 in
theorem rtake_any (s : List UInt8) (w : World) (hs : s.length ≤ 1000000000000) :
    Calls Tryd.prog 30 #[.string (bs s)] w (RetRTk w s) := by
  obtain ⟨n, r, e, hm⟩ : ∃ n r e, takeMost s 8 = (n, r, e) := ⟨_, _, _, rfl⟩
  have hp := takeMost_prop s 8 (by omega)
  rw [hm] at hp
  simp only at hp
  have hrl : r.length ≤ s.length := hp.2.1
  have HM := Lib.hid (refTakeMost_of (bs s) 8 hm)
  by_cases he : e = 0
  · subst he
    have hn8 : n ≤ 8 := takeMost_le8 hm
    obtain ⟨s0, hs0⟩ : ∃ s0, s0 = (if (tp n r).2.2 ≠ 0 then (([], [], (tp n r).2.2) : List Pr × List UInt8 × Nat) else ((tp n r).1, (tp n r).2.1, 0)) := ⟨_, rfl⟩
    have htk : Lab.take s = if s0.2.2 ≠ 0 then ([], [], s0.2.2) else if chk s0.1 = true then s0 else ([], [], 3) := by
      unfold Lab.take
      rw [hm]
      simp only
      rw [if_neg (by simp)]
      by_cases h2 : (tp n r).2.2 = 0
      · rw [if_neg (by simp [h2])] at hs0
        subst hs0
        simp [h2]
      · rw [if_pos h2] at hs0
        subst hs0
        simp [h2]
    have hst : TkS s0 n r 0 [] := by
      unfold TkS
      rw [if_pos rfl, hs0]
      rfl
    have HTK := Lib.hid htk
    have HST := Lib.hid hst
    have HN0 := Lib.hid (fun q => (NBuf.lit0 (below_draws w q) 61 2))
    clear hm hp htk hst hs0
    go_enter Tryd.func30, Tryd.ntmps30
    go_wp2_with fail
    refine (HM.out _ (by rw [bs_size]; unfold maxLen; omega) (by omega) (by omega)).mono ?_
    rintro e' w1 ⟨rfl, q, rfl⟩
    go_wp2_with fail
    go_loopw [8, 0, 7] (fun a b d wr => ∃ (k : Nat) (s' : List UInt8) (ps : List Pr), k ≤ n ∧ a = .int .i64 k ∧ b = .string (bs s') ∧ Hid (ps.length = k) ∧ s'.length ≤ s.length ∧ Hid (NBuf w wr 61 2 d k (pcs ps)) ∧ Hid (TkS s0 (n - k) s' 0 ps) ∧ Hid (∀ p ∈ ps, p.1.length ≤ s.length)) (fun a _ _ _ => n - (intOf a).toNat)
    case atStart => exact ⟨0, r, [], Nat.zero_le _, rfl, rfl, Lib.hid rfl, hrl, Lib.hid (HN0.out _), HST, Lib.hid (by simp)⟩
    case round =>
      clear HST hrl HN0
      obtain ⟨k, s', ps, hk, rfl, rfl, hps, hsl, hnb, hts, hpl⟩ := hrel
      obtain ⟨A, c, rfl, hc⟩ := hnb.out.buf.shape
      by_cases hgo : k < n
      · obtain ⟨x, s1, e1, h1⟩ : ∃ a b c, takeText s' 40 = (a, b, c) := ⟨_, _, _, rfl⟩
        obtain ⟨y, s2, e2, h2⟩ : ∃ a b c, takeText s1 40 = (a, b, c) := ⟨_, _, _, rfl⟩
        have hl1 := takeText_len (by omega) h1
        have hl2 := takeText_len (by omega) h2
        have T1 := Lib.hid (refTakeText_of (bs s') 40 h1)
        have T2 := Lib.hid (refTakeText_of (bs s1) 40 h2)
        have hd : decide ((k : Int) < (n : Int)) = true := decide_eq_true (by omega)
        have hts1 := hts.out
        rw [show n - k = (n - (k + 1)) + 1 by omega] at hts1
        by_cases he1 : e1 = 0
        · subst he1
          by_cases he2 : e2 = 0
          · subst he2
            have HT2 := Lib.hid (hts1.step h1 h2)
            clear h1 h2 hts1
            go_wp2_with fail
            refine (T1.out _ (by rw [bs_size]; unfold maxLen; omega) (by omega) (by omega)).mono ?_
            rintro e' w2 ⟨rfl, q1, rfl⟩
            go_wp2_with fail
            refine (T2.out _ (by rw [bs_size]; unfold maxLen; omega) (by omega) (by omega)).mono ?_
            rintro e' w2 ⟨rfl, q2, rfl⟩
            have HN3 := Lib.hid (hnb.out.drewN (q1 + q2))
            go_wp2_with (at_builtin; refine wpList_append_nlit rfl (.tmp 49) (.tmp 53) 29 rfl rpair_ty rfl HN3.out rfl (by simp) rfl (by simp [Value.oneCell']) (by simp only [maxLen]; omega) (by omega) ?_; intro v3 w3 hn3 _; have HN4 := Lib.hid hn3; clear hn3 HN3)
            go_roundw
            case rel => exact ⟨k + 1, s2, ps ++ [(x, y)], by omega, by go_num, rfl, Lib.hid (by simp [hps.out]), by omega, by rw [pcs_snoc]; exact HN4, HT2, Lib.hid (fun p hp => by rw [List.mem_append, List.mem_singleton] at hp; rcases hp with hp | rfl; exact hpl.out p hp; exact Nat.le_trans hl1.1 hsl)⟩
            case measure => simp [intOf]; try omega
          · have HTK2 := Lib.hid (show Lab.take s = ([], [], e2) by rw [HTK.out, hts1.bad2 h1 h2 he2]; simp [he2])
            have hb : ((e2 : Int) != 0) = true := by rw [bne_iff_ne]; omega
            clear h1 h2 hts1 he2
            go_wp2_with fail
            refine (T1.out _ (by rw [bs_size]; unfold maxLen; omega) (by omega) (by omega)).mono ?_
            rintro e' w2 ⟨rfl, q1, rfl⟩
            go_wp2_with fail
            refine (T2.out _ (by rw [bs_size]; unfold maxLen; omega) (by omega) (by omega)).mono ?_
            rintro e' w2 ⟨rfl, q2, rfl⟩
            go_wp2_with fail
            go_ret3
            exact ⟨_, _, _, _, HTK2.out, rfl, NBuf.nil (hnb.out.drewN (q1 + q2)).below _ _⟩
        · have HTK2 := Lib.hid (show Lab.take s = ([], [], e1) by rw [HTK.out, hts1.bad1 h1 he1]; simp [he1])
          have hb : ((e1 : Int) != 0) = true := by rw [bne_iff_ne]; omega
          clear h1 h2 hts1 he1
          go_wp2_with fail
          refine (T1.out _ (by rw [bs_size]; unfold maxLen; omega) (by omega) (by omega)).mono ?_
          rintro e' w2 ⟨rfl, q1, rfl⟩
          go_wp2_with fail
          go_ret3
          exact ⟨_, _, _, _, HTK2.out, rfl, NBuf.nil (hnb.out.drewN q1).below _ _⟩
      · obtain rfl : k = n := by omega
        have hts1 := hts.out
        rw [Nat.sub_self] at hts1
        have hs0 := hts1.end_
        obtain rfl : k = ps.length := hps.out.symm
        have hlk := rcheck_any6 _ ps wr hnb.out.slice (fun p hp => by have := hpl.out p hp; omega)
        by_cases hck : chk ps = true
        · have HTK2 := Lib.hid (show Lab.take s = (ps, s', 0) by rw [HTK.out, hs0]; simp [hck])
          rw [hck] at hlk
          have HK := Lib.hid hlk
          clear hs0 hlk hck hts1 hgo
          go_wp2_with fail
          refine HK.out.mono ?_
          rintro e w2 ⟨rfl, hb⟩
          have HN4 := Lib.hid (hnb.out.then_below hb)
          clear hb
          go_wp2_with fail
          go_ret3
          exact ⟨_, _, _, _, HTK2.out, rfl, HN4.out⟩
        · have HTK2 := Lib.hid (show Lab.take s = ([], [], 3) by rw [HTK.out, hs0]; simp [hck])
          rw [show chk ps = false by simpa using hck] at hlk
          have HK := Lib.hid hlk
          clear hs0 hlk hck hts1 hgo
          go_wp2_with fail
          refine HK.out.mono ?_
          rintro e w2 ⟨rfl, hb⟩
          have HN4 := Lib.hid (hnb.out.then_below hb)
          clear hb
          go_wp2_with fail
          go_ret3
          exact ⟨_, _, _, _, HTK2.out, rfl, NBuf.nil HN4.out.below _ _⟩
  · have htk2 : Lab.take s = ([], [], e) := by unfold Lab.take; rw [hm]; simp [he]
    have HTK2 := Lib.hid htk2
    have hb : ((e : Int) == 0) = false := by rw [beq_eq_false_iff_ne]; omega
    have hb2 : ((e : Int) != 0) = true := by rw [bne_iff_ne]; omega
    have HN0 := Lib.hid (fun q => (NBuf.lit0 (below_draws w q) 61 2))
    clear htk2 he hp hm hrl
    rcases n with _ | n
    · go_enter Tryd.func30, Tryd.ntmps30
      go_wp2_with fail
      refine (HM.out _ (by rw [bs_size]; unfold maxLen; omega) (by omega) (by omega)).mono ?_
      rintro e' w1 ⟨rfl, q, rfl⟩
      go_wp2_with fail
      go_loopw [8] (fun a wr => a = .int .i64 (0 : Nat) ∧ Hid (Below w.heap.size w wr)) (fun _ _ => 0)
      case atStart => exact ⟨rfl, Lib.hid (HN0.out q).below⟩
      case round =>
        obtain ⟨rfl, hbl⟩ := hrel
        go_wp2_with fail
        go_ret3
        exact ⟨_, _, _, _, HTK2.out, rfl, NBuf.nil hbl.out _ _⟩
    · have h0 : decide (0 < ((n : Int) + 1)) = true := decide_eq_true (by omega)
      go_enter Tryd.func30, Tryd.ntmps30
      go_wp2_with fail
      refine (HM.out _ (by rw [bs_size]; unfold maxLen; omega) (by omega) (by omega)).mono ?_
      rintro e' w1 ⟨rfl, q, rfl⟩
      go_wp2_with fail
      go_loopw [8] (fun a wr => a = .int .i64 (0 : Nat) ∧ Hid (Below w.heap.size w wr)) (fun _ _ => 0)
      case atStart => exact ⟨rfl, Lib.hid (HN0.out q).below⟩
      case round =>
        obtain ⟨rfl, hbl⟩ := hrel
        go_wp2_with fail
        go_ret3
        exact ⟨_, _, _, _, HTK2.out, rfl, NBuf.nil hbl.out _ _⟩

end Go.Proofs.YtpjicajifdandaaDoor
