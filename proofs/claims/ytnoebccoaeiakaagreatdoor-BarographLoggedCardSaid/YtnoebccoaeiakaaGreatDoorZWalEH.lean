/-
  Layer 11 (wal): Open.
-/
import Derived.Test.YtnoebccoaeiakaaGreatDoorZWalDL
import Derived.Test.YtnoebccoaeiakaaGreatDoorZLib1
import Derived.Lib.Strings
import Derived.Test.YtnoebccoaeiakaaGreatDoorZWalV
import Derived.KernelRfl
import Derived.Test.YtnoebccoaeiakaaGreatDoorZLib5
import Derived.Test.YtnoebccoaeiakaaGreatDoorZHdI
import Derived.Test.YtnoebccoaeiakaaGreatDoorZFrmN
import Derived.Test.YtnoebccoaeiakaaGreatDoorZLabD
import Derived.Test.YtnoebccoaeiakaaGreatDoorZHdU
import Derived.Test.YtnoebccoaeiakaaGreatDoorZHdV
import Derived.Test.YtnoebccoaeiakaaGreatDoorZWalEA
import Derived.Test.YtnoebccoaeiakaaGreatDoorRows
import Derived.LaidMore
import Derived.Lay
import Derived.Stop.Joined
import Derived.Stop.LaidErr
import Derived.ChangeSame
import Derived.OpenShut
import Derived.Test.YtnoebccoaeiakaaGreatDoorZMrgS
import Derived.Lib.Bytealg

namespace Go.Bar.Wal
open Go.RowKit Go.Bar Go.Bar.Leb Go.Bar.Frm Go.Proofs

theorem Off.ap {Ts : TypeId → Prop} {B : Nat} {w wr w' : World} {sz : Nat} {v : Value} (o : Off Ts B w wr) (hB : B ≤ w.heap.size) (ha : Ap wr w' sz v) (hv : ∀ k, v.ownBlock = some k → w.heap.size ≤ k) : Off Ts B w w' := by
  have hk : ∀ k, k < w.heap.size → w'.heap[k]? = wr.heap[k]? := fun k hlt => by
    rcases ha.block k (Nat.lt_of_lt_of_le hlt o.size) with h1 | ⟨o', n', c, cur1, cur', e1, fr, rfl, _⟩
    · exact h1
    · exact absurd (hv k rfl) (by omega)
  refine ⟨⟨ha.os.trans o.kc.os, ha.tape.trans o.kc.tape, ha.output.trans o.kc.output, Nat.le_trans o.kc.size ha.size, fun k cur T fr he ht => ?_⟩, ⟨ha.os.trans o.bel.os, ha.tape.trans o.bel.tape, ha.output.trans o.bel.output, Nat.le_trans o.bel.size ha.size, fun k hlt => ?_⟩, fun k es cl hk h => ?_⟩
  · rw [hk k (Array.getElem?_eq_some_iff.1 he).1]
    exact o.kc.block k cur T fr he ht
  · rw [hk k (by omega)]
    exact o.bel.block k hlt
  · have h1 := o.mp k es cl hk h
    rcases ha.block k (Array.getElem?_eq_some_iff.1 h1).1 with h2 | ⟨o', n', c, cur1, cur', e1, fr, rfl, h2, _⟩
    · exact h2.trans h1
    · rw [h1] at h2; cases h2

theorem recs_len (s : List UInt8) : (recs s).length ≤ s.length := by
  have h := (whole_eq s.length s (Nat.le_refl _)).1
  have h2 := congrArg List.length h
  rw [List.length_append] at h2
  have h3 : (recs s).length ≤ (laid (recs s)).length := by
    have : ∀ rs : List Rc, rs.length ≤ (laid rs).length := fun rs => by
      induction rs with
      | nil => exact Nat.zero_le _
      | cons r rs ih =>
        rw [laid_cons, List.length_append, List.length_cons, rec_len]
        omega
    exact this _
  omega

theorem openS_room (d : Ds) (n : Nat) : (openS d n).2.room = d.room := by
  unfold openS
  split
  · exact truncate_room _ _ _
  · exact sync_room _ _

end Go.Bar.Wal

namespace Go.Proofs.YtnoebccoaeiakaaGreatDoor
open Go.RowKit Go.Bar Go.Bar.Wal Go.Bar.Leb Go.Bar.Frm Go.Conc

theorem nd_rec : ¬ DTs 112 := fun c => by rcases c with c | c | c <;> exact absurd c (by decide)

theorem ndk_rec : NDk 112 := ⟨by decide, by decide⟩

attribute [local go_sem] Oper.semAt_some

theorem read_small {c : Nat} {d : Ds} (ha : Wal.Acc c d) (n : Nm) : ((d.read n).1.length : Int) ≤ d.room ∧ ((d.read n).2 = 0 ∨ (d.read n).2 = 5) := by
  unfold Ds.read
  have h1 := ha.use
  have h2 := ha.room
  cases hf : fnd d.fs n with
  | none => exact ⟨by show ((0 : Nat) : Int) ≤ _; omega, .inr rfl⟩
  | some f =>
    have h3 := len_le_tot d.fs n
    rw [len_some hf] at h3
    exact ⟨by show ((f.s.length : Nat) : Int) ≤ _; omega, .inl rfl⟩

theorem frcs_append (a b : List Rc) : frcs (a ++ b) = frcs a ++ frcs b := List.flatMap_append

def OpTo (B : Nat) (w : World) (h : Hd) (r : Nat × Ds × Lg × List Rc) (en : Ending) (w' : World) : Prop :=
  DkAt w' h r.2.1 ∧ Off LTs B w w' ∧ ((r.1 ≠ 0 ∧ en = .returned (.tuple #[.pointer none, .slice none 0 0, .int .i64 (r.1 : Nat)])) ∨
    (r.1 = 0 ∧ ∃ L v, en = .returned (.tuple #[.pointer (some ⟨L, 0, none⟩), v, .int .i64 0]) ∧ LgAt w' L h r.2.2.1 ∧ w.heap.size ≤ L ∧ Buf w' 112 2 v r.2.2.2.length (frcs r.2.2.2)))

set_option maxHeartbeats 8000000 in
set_option maxRecDepth 10000 in
theorem lOpen_any (w : World) (h : Hd) (d : Ds) (B c : Nat) (limit : Int) (k : DkAt w h d) (hE : EnvAt w) (hB : h.Hi B) (hB4 : 4 ≤ B) (ha : Wal.Acc c d) (hc : c ≤ 10000) (hr : d.room ≤ 10000000) :
    Calls Tryz.prog 6 #[.pointer (some ⟨h.D, 0, none⟩), .int .i64 limit] w (OpTo B w h (wOpen d limit)) := by
  have hB0 := hiA k hB
  have hE0 := Lib.hid hE
  have hsm := fun n (hn : n ∈ segsOf d) => segs_small ha hn
  have hslen : (segsOf d).length ≤ 10000 := by
    unfold segsOf
    rw [List.length_mergeSort]
    refine Nat.le_trans (List.length_filter_le _ _) ?_
    rw [List.length_map]
    unfold Ds.list
    refine Nat.le_trans (List.length_filter_le _ _) ?_
    rw [List.length_map]
    exact Nat.le_trans ha.num hc
  obtain ⟨r, hre⟩ : ∃ r, r = wOpen d limit := ⟨_, rfl⟩
  have hrt : ∀ q, openL (segsOf d) d [] 1 0 = q → r = if q.1 ≠ 0 then (q.1, q.2.1, (⟨0, 0, 0, false⟩ : Lg), []) else (0, q.2.1, (⟨max limit 1, q.2.2.2.1, q.2.2.2.2, false⟩ : Lg), since q.2.2.1) := fun q hq => by
    rw [hre, ← hq]; rfl
  rw [← hre]
  clear hre
  have hsegs := fun w' (k' : DkAt w' h d) (hE' : EnvAt w') => segments_any w' h d c k' hE' ha (by omega)
  obtain ⟨O, hO⟩ : ∃ O, O = segsOf d := ⟨_, rfl⟩
  rw [← hO] at hrt hsm hslen
  simp only [← hO] at hsegs
  clear hO
  replace hsegs := Lib.hid hsegs
  replace hrt := Lib.hid hrt
  obtain ⟨M, hM⟩ : ∃ M, M = max limit 1 := ⟨_, rfl⟩
  have hMx := Lib.hid hM
  rw [← hM] at hrt
  clear hM
  go_enter Tryz.func6, Tryz.ntmps6
  go_upto_region 3 with fail
  have hb1 : Below w.heap.size w (w.alloc (.cells #[.pointer (some ⟨h.D, 0, none⟩), .int .i64 (max limit 1), .int .i64 1, .int .i64 0, .bool false] 76)) := (Below.refl _ _).alloc (Nat.le_refl _) _
  have l1 : LgAt (w.alloc (.cells #[.pointer (some ⟨h.D, 0, none⟩), .int .i64 (max limit 1), .int .i64 1, .int .i64 0, .bool false] 76)) w.heap.size h ⟨max limit 1, 1, 0, false⟩ := Blk.new w _ _
  obtain ⟨w1, hw1⟩ : ∃ w1, w1 = w.alloc (.cells #[.pointer (some ⟨h.D, 0, none⟩), .int .i64 (max limit 1), .int .i64 1, .int .i64 0, .bool false] 76) := ⟨_, rfl⟩
  rw [← hw1] at hb1 l1 ⊢
  clear hw1
  have k1 := k.below hb1
  have hE1 := hE.below hb1
  go_wp2_with (go_at_call 25; refine (hsegs.out w1 k1 hE1).mono ?_; rintro e w2 ⟨ov, rfl, hold⟩; obtain ⟨OA, oc, rfl, hlc, hcm⟩ := hold.slice.shape; unfold maxLen at hcm)
  have hb2 := hold.below
  have K2 := Lib.hid (k1.below hb2)
  have L2 := Lib.hid (l1.below hb2)
  have O2 : Hid (Off LTs B w w2) := Off.of_below (below_trans hb1 hb2) hB0
  have OB2 := Lib.hid hold.buf
  have HA := Lib.hid ha
  clear k1 hE1 hb1 hb2 l1 hold hsegs k hE ha
  go_loopw [7, 25] (fun av i wr => ∃ (j : Nat) (dj : Ds) (all : List Rc) (seg size : Nat), i = .int .i64 (j : Nat) ∧ j ≤ O.length ∧ dj.room ≤ 10000000 ∧ all.length ≤ j * 10000000 ∧ Hid (Wal.Acc c dj) ∧ Hid (openL O d [] 1 0 = openL (O.drop j) dj all seg size) ∧ Hid (DkAt wr h dj) ∧ Hid (LgAt wr w.heap.size h ⟨max limit 1, seg, size, false⟩) ∧ Hid (Off LTs B w wr) ∧ Hid (Buf wr 112 2 av all.length (frcs all)) ∧ Hid (∀ k, av.ownBlock = some k → w.heap.size ≤ k) ∧ Hid (Buf wr 3 1 (.slice OA O.length oc) O.length (ncs O))) (fun _ i _ => O.length - (intOf i).toNat)
  case atStart => exact ⟨0, d, [], 1, 0, rfl, Nat.zero_le _, hr, by decide, HA, rfl, K2, L2, O2, Buf.nil _ _ _, (fun k hk => by cases hk), OB2⟩
  case round =>
    obtain ⟨j, dj, all, seg, size, rfl, hj, hrj, hall, haj, hrem, hkj, hlj, hoj, hab, hav, hob⟩ := hrel
    by_cases hjl : j < O.length
    · obtain ⟨n, hn⟩ : ∃ n, O[j]? = some n := ⟨_, List.getElem?_eq_getElem hjl⟩
      obtain ⟨hn1, hn2⟩ := hsm n (List.mem_of_getElem? hn)
      obtain ⟨bb, oo, rfl, hlt, hcells⟩ := (SlAt.of_buf hob.out).cells (by omega)
      have hcell := hcells j _ (ncs_at hn)
      have hci : (0 : Int) ≤ (j : Int) := by omega
      have hci2 : (j : Int) < O.length := by omega
      have hj4 : j < 10000 := by omega
      have hdrop : O.drop j = n :: O.drop (j + 1) := by
        obtain ⟨hlt, e⟩ := List.getElem?_eq_some_iff.1 hn
        rw [List.drop_eq_getElem_cons hlt, e]
      obtain ⟨N, hN⟩ : ∃ N, N = segN n := ⟨_, rfl⟩
      obtain ⟨rd, hrd⟩ : ∃ rd, rd = dj.read N := ⟨_, rfl⟩
      obtain ⟨hrd1, hrd2⟩ := read_small haj.out N
      rw [← hrd] at hrd1 hrd2
      have HNM := Lib.hid (fun wx (hEx : EnvAt wx) => name_any wx hEx n (by omega))
      have HRD := Lib.hid (fun wx (kx : DkAt wx h dj) => dRead_any wx h dj kx N (by rw [hN]; unfold maxLen; omega))
      have hNl : N.length ≤ maxLen := by rw [hN]; unfold maxLen; omega
      obtain ⟨os, hos⟩ : ∃ os, os = openS dj n := ⟨_, rfl⟩
      have haos : Hid (Wal.Acc c os.2) := by rw [hos]; exact haj.out.openS n
      have hros : os.2.room = dj.room := by rw [hos]; exact openS_room dj n
      have hstep0 := hrem.out
      rw [hdrop, openL, ← hN, ← hrd, ← hos] at hstep0
      have hoe : os = if rd.1.length - (left rd.1).length < rd.1.length then dj.truncate N (rd.1.length - (left rd.1).length) else dj.sync N := by rw [hos, hrd, hN]; rfl
      rw [← hN] at HNM
      rw [← hrd] at HRD
      have hll := left_le rd.1
      obtain ⟨S, er⟩ := rd
      simp only at hrd1 hrd2 HRD hstep0 hoe hll
      replace hstep0 := Lib.hid hstep0
      have hb0 := hiA hkj.out hB
      clear hdrop hN hrd hn hcells hrem hos
      have kj := hkj.out
      rcases hrd2 with rfl | rfl
      · obtain ⟨RL, hRL⟩ : ∃ RL, RL = recs S := ⟨_, rfl⟩
        obtain ⟨sz, hsz⟩ : ∃ sz, sz = S.length - (left S).length := ⟨_, rfl⟩
        have hszz : (S.length : Int) - ((left S).length : Nat) = ((sz : Nat) : Int) := by omega
        have hRLl : RL.length ≤ 10000000 := by rw [hRL]; have := recs_len S; omega
        have hall2 := Lib.hid (fun wx => all_any S wx (by omega))
        have hstep := hstep0.out
        rw [if_neg (fun h => h rfl)] at hstep
        rw [← hRL, ← hsz] at hstep
        rw [← hsz] at hoe
        simp only [← hRL, hszz] at hall2
        have hszl : sz ≤ S.length := by omega
        have hSZ2 : (sz : Int) ≤ 10000000 := by omega
        replace hstep := Lib.hid hstep
        clear hRL hsz hszz hstep0 hll
        have hSl2 : S.length ≤ 10000000 := by omega
        by_cases hcut : sz < S.length
        · have hose : os = dj.truncate N sz := by rw [hoe, if_pos hcut]
          have hcz : (sz : Int) < (S.length : Int) := by omega
          clear hoe
          go_upto_region 10 with (first
            | (go_at_call 23; refine (HNM.out _ (EnvAt.bel hE0.out hoj.out.bel hB4)).mono ?_; rintro e w3 ⟨rfl, hb3⟩; have k3 := hkj.out.below hb3)
            | (go_at_call 26; refine (HRD.out _ k3).mono ?_; rintro e w3b ⟨rfl, hb3b⟩; have hbA := below_trans hb3 hb3b; have kA := hkj.out.below hbA; have oA := hoj.out.trans (Off.of_below hbA hb0))
            | (go_at_call 27; refine (hall2.out _).mono ?_; rintro e w4 ⟨rv, rfl, rbuf, hb4⟩))
          have rbl := Lib.hid hb4
          have kB := kA.below hb4
          have oB := oA.trans (Off.of_below hb4 (hiA kA hB))
          have lB := (hlj.out.below hbA).below hb4
          have abB := (hab.out.below hbA).below hb4
          have obB := (hob.out.below hbA).below hb4
          have rbB := rbuf
          have hcall := Lib.hid (fun wx (kx : DkAt wx h dj) => (dTrunc_any wx h dj B c kx hB haj.out (by omega) (by omega) N sz hNl (by unfold maxLen; omega) : Calls Tryz.prog 28 #[.pointer (some ⟨h.D, 0, none⟩), .string (bs N), .int .i64 (sz : Nat)] wx (DkTo B wx h (dj.truncate N sz).2 (.int .i64 ((dj.truncate N sz).1 : Nat)))))
          replace hcall : Hid (∀ wx, DkAt wx h dj → Calls Tryz.prog 28 #[.pointer (some ⟨h.D, 0, none⟩), .string (bs N), .int .i64 (sz : Nat)] wx (DkTo B wx h os.2 (.int .i64 (os.1 : Nat)))) := by
            have h1 := hcall.out
            rw [← hose] at h1
            exact h1
          by_cases hos0 : os.1 = 0
          · have hos1 : Hid (os.1 = 0) := hos0
            have hstep2 : Hid (openL O d [] 1 0 = openL (O.drop (j + 1)) os.2 (all ++ RL) n sz) := by have := hstep.out; rwa [if_neg (fun h => h hos0)] at this
            rw [hos0] at hcall
            clear hos0 hstep hose
            go_upto_region 12 with (first
              | (go_at_call 23; refine (HNM.out _ (EnvAt.bel hE0.out (oA.trans (Off.of_below rbl.out (hiA kA hB))).bel hB4)).mono ?_; rintro e w5 ⟨rfl, hb5⟩; have k5 := kB.below hb5)
              | (go_at_call 28; refine (hcall.out _ k5).mono ?_; rintro e w6 ⟨rfl, k6, o6⟩))
            have o45 : Off DTs B w4 w6 := (Off.of_below hb5 (hiA kB hB)).trans o6
            have lq := Lib.hid (LgAt.off lB o45)
            have kq := Lib.hid k6
            have oq := Lib.hid (oB.trans (o45.wide dlt))
            have ab := Lib.hid (o45.kc.buf abB nd_rec)
            have rb := Lib.hid (o45.kc.buf rbB nd_rec)
            have ob := Lib.hid (o45.kc.buf obB nd_int)
            clear k5 k6 o6 o45 lB kB oB abB rbB obB hcall hb5

            go_upto_region 17 with fail
            obtain ⟨A7, c7, rfl, hlc7, hcm7⟩ := (SlAt.of_buf ab.out).shape
            have hlen7 : all.length + RL.length ≤ (j + 1) * 10000000 := by omega
            have hsrc := (SlAt.of_buf rb.out).src (P := Tryz.prog) (by decide) (t := 30) Tryz.underlying30 (frcs_one RL)
            replace hsrc := Lib.hid hsrc
            go_upto_region 18 with (at_builtin; refine wpList_append_el rfl (.tmp 63) (.tmp 64) 30 30 rfl rec_ty rfl ab.out rfl hsrc.out (by simp only [maxLen]; omega) (by omega) ?_; intro v8 w8 hb8 ha8 hg8)
            have k8 := kq.out.ap ab.out ha8 ndk_rec
            have l8 : LgAt w8 w.heap.size h ⟨max limit 1, seg, size, false⟩ := Blk.ap lq.out ab.out ha8 (by decide)
            have ob8 := ob.out.keep_ap ab.out ha8 (by decide)
            have o8 := Off.ap oq.out hB0 ha8 hav.out
            have hav8 : ∀ k, v8.ownBlock = some k → w.heap.size ≤ k := hg8.new oq.out.size hav.out
            rw [← frcs_append] at hb8
            have l8 : Blk w8 w.heap.size 76 #[.pointer (some ⟨h.D, 0, none⟩), .int .i64 (max limit 1), .int .i64 (seg : Nat), .int .i64 (size : Nat), .bool false] := l8
            have f2 := l8.free 2
            have f3 := l8.free 3
            obtain ⟨d0, d1, d2, d3, d4⟩ := Blk.c5 l8
            have l9 := (l8.set 2 (.int .i64 (n : Nat))).set 3 (.int .i64 (sz : Nat))
            have k9 := (k8.other l8 ndk_log 2 (.int .i64 (n : Nat))).other (l8.set 2 (.int .i64 (n : Nat))) ndk_log 3 (.int .i64 (sz : Nat))
            have o9 := (o8.trans (Off.set l8 (.inr rfl) hB0 2 (.int .i64 (n : Nat)))).trans (Off.set (l8.set 2 (.int .i64 (n : Nat))) (.inr rfl) hB0 3 (.int .i64 (sz : Nat)))
            have ob9 := (ob8.set_ne l8 (by decide) 2 (.int .i64 (n : Nat))).set_ne (l8.set 2 (.int .i64 (n : Nat))) (by decide) 3 (.int .i64 (sz : Nat))
            have ab9 := (hb8.set_ne l8 (by decide) 2 (.int .i64 (n : Nat))).set_ne (l8.set 2 (.int .i64 (n : Nat))) (by decide) 3 (.int .i64 (sz : Nat))
            have K9 := Lib.hid k9
            have L9 := Lib.hid l9
            have O9 := Lib.hid o9
            have B9 := Lib.hid ob9
            have C9 := Lib.hid ab9
            have V9 := Lib.hid hav8
            clear k8 l8 ob8 o8 hb8 ha8 hg8 k9 l9 o9 ob9 ab9 hav8 ab hsrc
            go_wp2_with fail
            go_roundw
            case rel => exact ⟨j + 1, os.2, all ++ RL, n, sz, by go_num, by omega, by omega, by rw [List.length_append]; omega, haos, hstep2, K9.out, L9.out, O9.out, (by rw [List.length_append]; exact C9.out), V9.out, B9.out⟩
            case measure => simp [intOf]; omega
          · have hfin : Hid (r = (os.1, os.2, (⟨0, 0, 0, false⟩ : Lg), [])) := by
              have h1 := hstep.out
              rw [if_pos hos0] at h1
              have h2 := hrt.out _ h1
              rwa [if_pos hos0] at h2
            have hos2 : ¬ (os.1 : Int) = 0 := by omega
            have hos3 : Hid (¬ os.1 = 0) := hos0
            clear hstep hose
            go_wp2_with (first
              | (go_at_call 23; refine (HNM.out _ (EnvAt.bel hE0.out (oA.trans (Off.of_below rbl.out (hiA kA hB))).bel hB4)).mono ?_; rintro e w5 ⟨rfl, hb5⟩; have k5 := kB.below hb5)
              | (go_at_call 28; refine (hcall.out _ k5).mono ?_; rintro e w6 ⟨rfl, k6, o6⟩))
            go_ret3
            rw [hfin.out]
            exact ⟨k6, oB.trans (((Off.of_below hb5 (hiA kB hB)).trans o6).wide dlt), .inl ⟨hos3.out, rfl⟩⟩
        · have hose : os = dj.sync N := by rw [hoe, if_neg hcut]
          have hcz : ¬ (sz : Int) < (S.length : Int) := by omega
          clear hoe
          go_upto_region 10 with (first
            | (go_at_call 23; refine (HNM.out _ (EnvAt.bel hE0.out hoj.out.bel hB4)).mono ?_; rintro e w3 ⟨rfl, hb3⟩; have k3 := hkj.out.below hb3)
            | (go_at_call 26; refine (HRD.out _ k3).mono ?_; rintro e w3b ⟨rfl, hb3b⟩; have hbA := below_trans hb3 hb3b; have kA := hkj.out.below hbA; have oA := hoj.out.trans (Off.of_below hbA hb0))
            | (go_at_call 27; refine (hall2.out _).mono ?_; rintro e w4 ⟨rv, rfl, rbuf, hb4⟩))
          have rbl := Lib.hid hb4
          have kB := kA.below hb4
          have oB := oA.trans (Off.of_below hb4 (hiA kA hB))
          have lB := (hlj.out.below hbA).below hb4
          have abB := (hab.out.below hbA).below hb4
          have obB := (hob.out.below hbA).below hb4
          have rbB := rbuf
          have hcall := Lib.hid (fun wx (kx : DkAt wx h dj) => dSync_any wx h dj B c kx hB haj.out (by omega) (by omega) N hNl)
          replace hcall : Hid (∀ wx, DkAt wx h dj → Calls Tryz.prog 29 #[.pointer (some ⟨h.D, 0, none⟩), .string (bs N)] wx (DkTo B wx h os.2 (.int .i64 (os.1 : Nat)))) := by
            have h1 := hcall.out
            rw [← hose] at h1
            exact h1
          by_cases hos0 : os.1 = 0
          · have hos1 : Hid (os.1 = 0) := hos0
            have hstep2 : Hid (openL O d [] 1 0 = openL (O.drop (j + 1)) os.2 (all ++ RL) n sz) := by have := hstep.out; rwa [if_neg (fun h => h hos0)] at this
            rw [hos0] at hcall
            clear hos0 hstep hose
            go_upto_region 15 with (first
              | (go_at_call 23; refine (HNM.out _ (EnvAt.bel hE0.out (oA.trans (Off.of_below rbl.out (hiA kA hB))).bel hB4)).mono ?_; rintro e w5 ⟨rfl, hb5⟩; have k5 := kB.below hb5)
              | (go_at_call 29; refine (hcall.out _ k5).mono ?_; rintro e w6 ⟨rfl, k6, o6⟩))
            have o45 : Off DTs B w4 w6 := (Off.of_below hb5 (hiA kB hB)).trans o6
            have lq := Lib.hid (LgAt.off lB o45)
            have kq := Lib.hid k6
            have oq := Lib.hid (oB.trans (o45.wide dlt))
            have ab := Lib.hid (o45.kc.buf abB nd_rec)
            have rb := Lib.hid (o45.kc.buf rbB nd_rec)
            have ob := Lib.hid (o45.kc.buf obB nd_int)
            clear k5 k6 o6 o45 lB kB oB abB rbB obB hcall hb5

            go_upto_region 17 with fail
            obtain ⟨A7, c7, rfl, hlc7, hcm7⟩ := (SlAt.of_buf ab.out).shape
            have hlen7 : all.length + RL.length ≤ (j + 1) * 10000000 := by omega
            have hsrc := (SlAt.of_buf rb.out).src (P := Tryz.prog) (by decide) (t := 30) Tryz.underlying30 (frcs_one RL)
            replace hsrc := Lib.hid hsrc
            go_upto_region 18 with (at_builtin; refine wpList_append_el rfl (.tmp 63) (.tmp 64) 30 30 rfl rec_ty rfl ab.out rfl hsrc.out (by simp only [maxLen]; omega) (by omega) ?_; intro v8 w8 hb8 ha8 hg8)
            have k8 := kq.out.ap ab.out ha8 ndk_rec
            have l8 : LgAt w8 w.heap.size h ⟨max limit 1, seg, size, false⟩ := Blk.ap lq.out ab.out ha8 (by decide)
            have ob8 := ob.out.keep_ap ab.out ha8 (by decide)
            have o8 := Off.ap oq.out hB0 ha8 hav.out
            have hav8 : ∀ k, v8.ownBlock = some k → w.heap.size ≤ k := hg8.new oq.out.size hav.out
            rw [← frcs_append] at hb8
            have l8 : Blk w8 w.heap.size 76 #[.pointer (some ⟨h.D, 0, none⟩), .int .i64 (max limit 1), .int .i64 (seg : Nat), .int .i64 (size : Nat), .bool false] := l8
            have f2 := l8.free 2
            have f3 := l8.free 3
            obtain ⟨d0, d1, d2, d3, d4⟩ := Blk.c5 l8
            have l9 := (l8.set 2 (.int .i64 (n : Nat))).set 3 (.int .i64 (sz : Nat))
            have k9 := (k8.other l8 ndk_log 2 (.int .i64 (n : Nat))).other (l8.set 2 (.int .i64 (n : Nat))) ndk_log 3 (.int .i64 (sz : Nat))
            have o9 := (o8.trans (Off.set l8 (.inr rfl) hB0 2 (.int .i64 (n : Nat)))).trans (Off.set (l8.set 2 (.int .i64 (n : Nat))) (.inr rfl) hB0 3 (.int .i64 (sz : Nat)))
            have ob9 := (ob8.set_ne l8 (by decide) 2 (.int .i64 (n : Nat))).set_ne (l8.set 2 (.int .i64 (n : Nat))) (by decide) 3 (.int .i64 (sz : Nat))
            have ab9 := (hb8.set_ne l8 (by decide) 2 (.int .i64 (n : Nat))).set_ne (l8.set 2 (.int .i64 (n : Nat))) (by decide) 3 (.int .i64 (sz : Nat))
            have K9 := Lib.hid k9
            have L9 := Lib.hid l9
            have O9 := Lib.hid o9
            have B9 := Lib.hid ob9
            have C9 := Lib.hid ab9
            have V9 := Lib.hid hav8
            clear k8 l8 ob8 o8 hb8 ha8 hg8 k9 l9 o9 ob9 ab9 hav8 ab hsrc
            go_wp2_with fail
            go_roundw
            case rel => exact ⟨j + 1, os.2, all ++ RL, n, sz, by go_num, by omega, by omega, by rw [List.length_append]; omega, haos, hstep2, K9.out, L9.out, O9.out, (by rw [List.length_append]; exact C9.out), V9.out, B9.out⟩
            case measure => simp [intOf]; omega
          · have hfin : Hid (r = (os.1, os.2, (⟨0, 0, 0, false⟩ : Lg), [])) := by
              have h1 := hstep.out
              rw [if_pos hos0] at h1
              have h2 := hrt.out _ h1
              rwa [if_pos hos0] at h2
            have hos2 : ¬ (os.1 : Int) = 0 := by omega
            have hos3 : Hid (¬ os.1 = 0) := hos0
            clear hstep hose
            go_wp2_with (first
              | (go_at_call 23; refine (HNM.out _ (EnvAt.bel hE0.out (oA.trans (Off.of_below rbl.out (hiA kA hB))).bel hB4)).mono ?_; rintro e w5 ⟨rfl, hb5⟩; have k5 := kB.below hb5)
              | (go_at_call 29; refine (hcall.out _ k5).mono ?_; rintro e w6 ⟨rfl, k6, o6⟩))
            go_ret3
            rw [hfin.out]
            exact ⟨k6, oB.trans (((Off.of_below hb5 (hiA kB hB)).trans o6).wide dlt), .inl ⟨hos3.out, rfl⟩⟩
      · have hfin : Hid (r = (5, dj, (⟨0, 0, 0, false⟩ : Lg), [])) := by
          have h1 := hstep0.out
          rw [if_pos (show (5 : Nat) ≠ 0 by decide)] at h1
          have h2 := hrt.out _ h1
          rwa [if_pos (show (5 : Nat) ≠ 0 by decide)] at h2
        clear hstep0 hoe
        go_wp2_with (first
          | (go_at_call 23; refine (HNM.out _ (EnvAt.bel hE0.out hoj.out.bel hB4)).mono ?_; rintro e w3 ⟨rfl, hb3⟩; have k3 := hkj.out.below hb3)
          | (go_at_call 26; refine (HRD.out _ k3).mono ?_; rintro e w3b ⟨rfl, hb3b⟩; have hbA := below_trans hb3 hb3b; have kA := hkj.out.below hbA; have oA := hoj.out.trans (Off.of_below hbA hb0)))
        go_ret3
        rw [hfin.out]
        exact ⟨kA, oA, .inl ⟨show (5 : Nat) ≠ 0 by decide, rfl⟩⟩
    · have hje : j = O.length := by omega
      have hfin : Hid (r = (0, dj, (⟨max limit 1, seg, size, false⟩ : Lg), since all)) := by
        have h1 := hrem.out
        rw [hje, List.drop_length, openL] at h1
        have h2 := hrt.out _ h1
        rw [if_neg (fun h => h rfl), hMx.out] at h2
        exact h2
      have hj2 : (O.length : Int) ≤ (j : Int) := by omega
      have hallz : all.length ≤ 100000000000 := by omega
      have hsl : (since all).length ≤ all.length := by
        unfold since
        rw [List.length_reverse]
        exact Nat.le_trans (List.takeWhile_sublist _).length_le (by rw [List.length_reverse]; exact Nat.le_refl _)
      have hba : Below wr.heap.size wr (wr.alloc (.cells #[] 112)) := (Below.refl _ _).alloc (Nat.le_refl _) _
      have kz := hkj.out.below hba
      have lz := hlj.out.below hba
      have oz := hoj.out.trans (Off.of_below hba (hiA hkj.out hB))
      have hrec := SlAt.below (SlAt.of_buf hab.out) hba
      have hsin := Lib.hid (since_any _ all _ hrec)
      have hbz := Lib.hid (NBuf.lit0 (Below.refl _ wr) 112 2).buf
      clear hjl hrem hrec hje
      obtain ⟨SN, hSN⟩ : ∃ SN, SN = since all := ⟨_, rfl⟩
      rw [← hSN] at hfin hsin hsl
      clear hSN
      go_wp2_with (first
        | (go_at_call 30; refine hsin.out.mono ?_; rintro e w3 ⟨v3, rfl, hrv, rfl⟩; have hsrc := (show SlAt _ 2 v3 SN.length (frcs SN) from hrv).src (P := Tryz.prog) (by decide) (t := 30) Tryz.underlying30 (frcs_one SN); have hsr := Lib.hid hsrc; clear hsrc)
        | (at_builtin; refine wpList_append_el rfl (.tmp 76) (.tmp 78) 30 30 rfl rec_ty rfl hbz.out rfl hsr.out (by simp only [maxLen]; omega) (by omega) ?_; intro v8 w8 hb8 ha8 hg8))
      go_ret3
      rw [hfin.out]
      rw [Nat.zero_add, List.nil_append] at hb8
      exact ⟨kz.ap hbz.out ha8 ndk_rec, Off.ap oz hB0 ha8 (by
        intro k hk
        have h1 := hoj.out.size
        have h2 : wr.heap.size = k := by injection hk
        rw [← h2]; exact h1), .inr ⟨rfl, _, v8, rfl, Blk.ap lz hbz.out ha8 (by decide), Nat.le_refl _, hb8⟩⟩

end Go.Proofs.YtnoebccoaeiakaaGreatDoor

namespace Go.Bar.Wal
open Go.RowKit Go.Bar Go.Bar.Leb Go.Bar.Frm

def cutR (m : Nat) (r : Rc) : Rc := (r.1 &&& 127, r.2.take m)

end Go.Bar.Wal

namespace Go.Proofs.YtnoebccoaeiakaaGreatDoor
open Go.RowKit Go.Bar Go.Bar.Wal Go.Bar.Leb Go.Bar.Frm Go.Conc

attribute [local go_sem] Oper.semAt_some

end Go.Proofs.YtnoebccoaeiakaaGreatDoor

namespace Go.Bar.Wal
open Go.RowKit Go.Bar Go.Bar.Leb Go.Bar.Frm Go.Proofs

theorem nl_rec : ¬ LTs 112 := fun c => by
  rcases c with c | c
  · rcases c with c | c | c <;> exact absurd c (by decide)
  · exact absurd c (by decide)

end Go.Bar.Wal

namespace Go.Proofs.YtnoebccoaeiakaaGreatDoor
open Go.RowKit Go.Bar Go.Bar.Wal Go.Bar.Leb Go.Bar.Frm Go.Conc

attribute [local go_sem] Oper.semAt_some

theorem open_ok (w : World) (h : Hd) (d : Ds) (B c : Nat) (limit : Int) (d' : Ds) (g' : Lg) (got : List Rc) (hw : wOpen d limit = (0, d', g', got)) (k : DkAt w h d) (hE : EnvAt w) (hB : h.Hi B) (hB4 : 4 ≤ B) (ha : Wal.Acc c d) (hc : c ≤ 10000) (hr : d.room ≤ 10000000) :
    Calls Tryz.prog 6 #[.pointer (some ⟨h.D, 0, none⟩), .int .i64 limit] w fun en w' => ∃ L A cp, en = .returned (.tuple #[.pointer (some ⟨L, 0, none⟩), .slice A got.length cp, .int .i64 0]) ∧ DkAt w' h d' ∧ LgAt w' L h g' ∧ B ≤ L ∧ Off LTs B w w' ∧ Buf w' 112 2 (.slice A got.length cp) got.length (frcs got) := by
  have hB0 := hiA k hB
  refine (lOpen_any w h d B c limit k hE hB hB4 ha hc hr).mono ?_
  rw [hw]
  rintro en w' ⟨k', o', hh⟩
  rcases hh with ⟨hh, _⟩ | ⟨_, L, v, rfl, l', hL, hbuf⟩
  · exact absurd rfl hh
  · obtain ⟨A, cp, rfl, _⟩ := hbuf.shape
    exact ⟨L, A, cp, rfl, k', l', Nat.le_trans hB0 hL, o', hbuf⟩

theorem append_ok (w : World) (L : Nat) (h : Hd) (d : Ds) (g : Lg) (B c : Nat) (v : Value) (rs : List Rc) (e : Nat) (d' : Ds) (g' : Lg) (hw : wAppend d g rs = (e, d', g')) (k : DkAt w h d) (kl : LgAt w L h g) (hE : EnvAt w) (hB : h.Hi B) (hL : B ≤ L) (hB4 : 4 ≤ B) (ha : Wal.Acc c d) (hc : c ≤ 100000) (hr : d.room ≤ 10000000)
    (hv : RecsAt w v rs) (hn : rs.length ≤ 20) (hs : ∀ r ∈ rs, r.2.length ≤ 1000) (hg1 : 1 ≤ g.limit) (hg2 : g.limit ≤ 9223372036854775807) (hg3 : g.seg ≤ 1000000) (hg4 : g.size ≤ 1000000000) :
    Calls Tryz.prog 12 #[.pointer (some ⟨L, 0, none⟩), v] w fun en w' => en = .returned (.int .i64 (e : Nat)) ∧ DkAt w' h d' ∧ LgAt w' L h g' ∧ Off LTs B w w' := by
  refine (lAppend_any w L h d g B c v rs k kl hE hB hL hB4 ha hc hr hv hn hs hg1 hg2 hg3 hg4).mono ?_
  rw [hw]
  rintro en w' ⟨h1, h2, h3, h4⟩
  exact ⟨h1, h2, h3, h4⟩

end Go.Proofs.YtnoebccoaeiakaaGreatDoor

namespace Go.Bar.Wal
open Go.RowKit Go.Bar Go.Bar.Leb Go.Bar.Frm

theorem wAppend_lim (d : Ds) (g : Lg) (rs : List Rc) : (wAppend d g rs).2.2.limit = g.limit := by
  unfold wAppend
  simp only
  (repeat' split) <;> rfl

theorem wAppend_size (d : Ds) (g : Lg) (rs : List Rc) : (wAppend d g rs).2.2.size ≤ g.size + (laid rs).length := by
  unfold wAppend
  simp only
  (repeat' split) <;> simp only <;> omega

end Go.Bar.Wal

namespace Go.Proofs.YtnoebccoaeiakaaGreatDoor
open Go.RowKit Go.Bar Go.Bar.Wal Go.Bar.Leb Go.Bar.Frm Go.Conc

end Go.Proofs.YtnoebccoaeiakaaGreatDoor

namespace Go.Proofs.YtnoebccoaeiakaaGreatDoor
open Go.RowKit Go.Bar Go.Bar.Wal Go.Bar.Leb Go.Bar.Frm Go.Bar.Lab Go.Bar.Xor Go.Bar.Mrg Go.Bar.Hd Go.Conc
theorem lab5_fine (n : Nat) : LbOk (lab5 n) ∧ Small (lab5 n) := by
  have h : ∀ j, j < 5 → LbOk (lab5 j) ∧ Small (lab5 j) := by unfold LbOk Small; decide +kernel
  have e : lab5 n = lab5 (n % 5) := by unfold lab5; rw [Nat.mod_mod]
  rw [e]
  exact h _ (Nat.mod_lt _ (by decide))
theorem ptO_fine (o : On3) (h : On3Ok o) : LbOk (ptO o).1 ∧ Small (ptO o).1 ∧ (ptO o).2.2 < 18446744073709551616 := by
  refine ⟨?_, ?_, h.2.2⟩
  · show LbOk (ptL o); unfold ptL; split
    · unfold LbOk; decide
    · exact (lab5_fine _).1
  · show Small (ptL o); unfold ptL; split
    · unfold Small; decide +kernel
    · exact (lab5_fine _).2
theorem ptsO_fine {l : List On3} (h : ∀ z ∈ l, On3Ok z) : (ptsO l).length ≤ 8 ∧ ∀ q ∈ ptsO l, LbOk q.1 ∧ Small q.1 ∧ q.2.2 < 18446744073709551616 := by
  unfold ptsO
  refine ⟨by rw [List.length_map]; exact List.length_take_le 8 l, fun q hq => ?_⟩
  obtain ⟨o, ho, rfl⟩ := List.mem_map.1 hq
  exact ptO_fine o (h o (List.mem_of_mem_take ho))
theorem st_len (A : List Pnt) : (addMs [] A).length ≤ A.length := by have := addMs_len A []; simpa using this
theorem st_rows (A : List Pnt) : ∀ r ∈ addMs [] A, r.2.length ≤ A.length := fun r hr => by
  have := addMs_rows (N := 0) (h := []) A (fun r hr => by cases hr) r hr
  omega
def cfg9 : Cfg := ⟨20, 200, 50⟩
theorem cfg9_ok : CfgOk cfg9 := by unfold CfgOk cfg9; decide
structure Plc (h : Go.Bar.Wal.Hd) (B L H : Nat) : Prop where
  hi : h.Hi B
  b4 : 4 ≤ B
  l : B ≤ L
  hB : B + 2 < H
  d : h.D < H
  u : h.U < H
  c : h.C < H
  m : h.M < H
  g : L < H
theorem Plc.of {w : World} {h : Go.Bar.Wal.Hd} {d : Ds} {B L : Nat} {g : Lg} (k : DkAt w h d) (l : LgAt w L h g) (hi : h.Hi B) (b4 : 4 ≤ B) (hL : B ≤ L) : Plc h B L w.heap.size := by
  obtain ⟨⟨a, b, k1, k2⟩, k3, k4⟩ := k
  have h1 := k1.dk.lt
  have h2 := k1.fu.lt
  have h3 := k1.ltC
  have h4 := k1.mp.lt
  have n1 := k1.nDU
  have n2 := k1.nDC
  have n3 := k1.nMD
  have n4 := k1.nMU
  have n5 := k1.nMC
  have n6 := k1.nUC
  have := hi.d
  have := hi.u
  have := hi.c
  have := hi.m
  exact ⟨hi, b4, hL, by omega, h1, h2, h3, h4, Blk.lt l⟩
structure LgS (B : Nat) (w0 wr : World) (h : Go.Bar.Wal.Hd) (L k : Nat) (A : List Pnt) (d : Ds) (g : Lg) : Prop where
  lg : LogI k A d g
  lm : g.limit = 150
  sz : g.size ≤ 1000 * k
  kd : DkAt wr h d
  la : LgAt wr L h g
  bel : Below B w0 wr
structure HdS (wr : World) (p H k : Nat) (A : List Pnt) (hg : Hg) : Prop where
  hd : HdAt Tryz.prog hty 3 wr p H cfg9 (addMs [] A) hg
  nx : hg.nx = (addMs [] A).length + 1
  n : hg.n ≤ 8 * k
section
variable {B L k p H : Nat} {w0 wr w' : World} {h : Go.Bar.Wal.Hd} {A : List Pnt} {d : Ds} {g : Lg} {hg : Hg}
theorem LgS.below (s : LgS B w0 wr h L k A d g) (P : Plc h B L H) (hb : Below wr.heap.size wr w') : LgS B w0 w' h L k A d g :=
  ⟨s.lg, s.lm, s.sz, s.kd.below hb, s.la.below hb, s.bel.trans (hb.mono (hiA s.kd P.hi))⟩
theorem dk_belowH (kd : DkAt wr h d) (P : Plc h B L H) (hb : Below H wr w') : DkAt w' h d := by
  obtain ⟨⟨a, b, k1, k2⟩, k3, k4⟩ := kd
  exact ⟨⟨a, b, k1.keep (hb.block _ P.d) (hb.block _ P.u) (hb.block _ P.c) (hb.block _ P.m), k2⟩, k3, k4⟩
theorem LgS.high (s : LgS B w0 wr h L k A d g) (P : Plc h B L H) (hb : Below H wr w') : LgS B w0 w' h L k A d g :=
  ⟨s.lg, s.lm, s.sz, dk_belowH s.kd P hb, (hb.block _ P.g).trans s.la, s.bel.trans (hb.mono (by have := P.hB; omega))⟩
theorem HdS.below (s : HdS wr p H k A hg) (hb : Below wr.heap.size wr w') : HdS w' p H k A hg := ⟨s.hd.below hb, s.nx, s.n⟩
theorem HdS.off (s : HdS wr p H k A hg) (P : Plc h B L H) (o : Off LTs B wr w') : HdS w' p H k A hg :=
  ⟨s.hd.keep (Ts := LTs) (Ms := fun b => b ≤ B + 2) ⟨o.kc, fun i es cl he hm => o.mp i es cl (by omega) he⟩ (by unfold LTs DTs hty; decide) (fun b hb => by have := P.hB; omega), s.nx, s.n⟩
theorem HdS.size (s : HdS wr p H k A hg) : H ≤ wr.heap.size := Nat.le_of_lt (Nat.lt_of_le_of_lt s.hd.hp s.hd.hd.lt)
end
end Go.Proofs.YtnoebccoaeiakaaGreatDoor

namespace Go.Proofs.YtnoebccoaeiakaaGreatDoor
open Go.RowKit Go.Bar Go.Bar.Wal Go.Bar.Leb Go.Bar.Frm Go.Bar.Lab Go.Bar.Xor Go.Bar.Mrg Go.Bar.Hd Go.Conc
section
variable {B L k p H : Nat} {w0 wr w' : World} {h : Go.Bar.Wal.Hd} {A : List Pnt} {d : Ds} {g : Lg} {hg : Hg}
structure PsI (A : List Pnt) (lq : List Pv) : Prop where
  ok : OksM (addMs [] A) (lq.map plP)
  sm : ∀ q ∈ lq.map plP, Small q.1
  len : lq.length ≤ 8
theorem law_check (s : HdS wr p H k A hg) (l : LogI k A d g) (hk : k ≤ 10) (v : Value) (lq : List Pv) (hv : PtB wr v lq) (z : List On3) (hz : ∀ o ∈ z, On3Ok o) (he : lq.map plP = ptsO z) :
    Calls Tryz.prog 9 #[.pointer (some ⟨p, 0, none⟩), v] wr (RetChk wr (addMs [] A) (lq.map plP)) := by
  obtain ⟨f1, f2⟩ := ptsO_fine hz
  rw [← he, List.length_map] at f1
  have hA := l.len
  have hl := st_len A
  have hn := s.n
  refine hcheck_any p H cfg9 _ hg lq v wr s.hd hv.at_ (Gd.adds Gd.nil l.ok) (fun x hx => ?_) (fun x hx => ?_) cfg9_ok (by omega) (by omega) (by omega)
  · exact (f2 (plP x) (by rw [← he]; exact List.mem_map.2 ⟨x, hx, rfl⟩)).1
  · exact (f2 (plP x) (by rw [← he]; exact List.mem_map.2 ⟨x, hx, rfl⟩)).2.2
theorem law_all (z : List On3) (hz : ∀ o ∈ z, On3Ok o) {lq : List Pv} (he : lq.map plP = ptsO z) (ho : OksM (addMs [] A) (lq.map plP)) : PsI A lq := by
  obtain ⟨f1, f2⟩ := ptsO_fine hz
  refine ⟨ho, fun q hq => (f2 q (by rw [← he]; exact hq)).2.1, ?_⟩
  rw [← he, List.length_map] at f1
  exact f1
theorem law_some (z : List On3) (hz : ∀ o ∈ z, On3Ok o) {lq : List Pv} (he : lq.map plP = ptsO z) {i : Nat} (ho : OksM (addMs [] A) ((lq.map plP).take i)) : PsI A (lq.take i) := by
  obtain ⟨f1, f2⟩ := ptsO_fine hz
  rw [← List.map_take] at ho
  refine ⟨ho, fun q hq => (f2 q ?_).2.1, ?_⟩
  · rw [← he]
    rw [List.map_take] at hq
    exact List.mem_of_mem_take hq
  · rw [← he, List.length_map] at f1
    exact Nat.le_trans (List.length_take_le' i lq) f1
theorem law_records (s : HdS wr p H k A hg) (l : LogI k A d g) (hk : k ≤ 10) (v : Value) (lq : List Pv) (hv : PtB wr v lq) (hp : PsI A lq) :
    Calls Tryz.prog 10 #[.pointer (some ⟨p, 0, none⟩), v] wr (RetRs wr ((its (addMs [] A) (lq.map plP)).map Go.Bar.Hd.encI)) := by
  have hA := l.len
  have hl := st_len A
  have h8 := hp.len
  exact hrecords_any p H cfg9 _ hg lq v wr s.hd hv.at_ (Gd.adds Gd.nil l.ok) hp.ok s.nx (by omega) (by omega)
theorem law_few (l : LogI k A d g) (hk : k ≤ 10) {lq : List Pv} (hp : PsI A lq) : Wal.Few ((its (addMs [] A) (lq.map plP)).map Go.Bar.Hd.encI) ∧ (∀ r ∈ (its (addMs [] A) (lq.map plP)).map Go.Bar.Hd.encI, r.2.length ≤ 40) ∧ (laid ((its (addMs [] A) (lq.map plP)).map Go.Bar.Hd.encI)).length ≤ 1000 ∧ ((its (addMs [] A) (lq.map plP)).map Go.Bar.Hd.encI).length ≤ 20 := by
  have hA := l.len
  have hl := st_len A
  have h8 := hp.len
  obtain ⟨a1, a2, a3, a4⟩ := recs_few (h := addMs [] A) (ps := lq.map plP) (by rw [List.length_map]; omega) (fun q hq => ⟨hp.sm q hq, (OksM.tm hp.ok q hq).1⟩)
  rw [List.length_map] at a3
  rw [List.length_map (f := plP)] at a4
  exact ⟨a1, a2, by omega, by omega⟩
theorem law_append (P : Plc h B L H) (s : LgS B w0 wr h L k A d g) (hk : k < 10) (hE : EnvAt wr) (v : Value) (lq : List Pv) (hp : PsI A lq) (hv : RecsAt wr v ((its (addMs [] A) (lq.map plP)).map Go.Bar.Hd.encI)) :
    Calls Tryz.prog 12 #[.pointer (some ⟨L, 0, none⟩), v] wr fun e w' => e = .returned (.int .i64 0) ∧ ∃ d' g', LgS B w0 w' h L (k + 1) (A ++ lq.map plP) d' g' ∧ Off LTs B wr w' := by
  obtain ⟨f1, f2, f3, f4⟩ := law_few s.lg (by omega) hp
  obtain ⟨d', g', e1, l'⟩ := s.lg.app (B := lq.map plP) (by omega) hp.ok hp.sm (by rw [List.length_map]; exact hp.len)
  have hlim := wAppend_lim d g ((its (addMs [] A) (lq.map plP)).map Go.Bar.Hd.encI)
  have hsz := wAppend_size d g ((its (addMs [] A) (lq.map plP)).map Go.Bar.Hd.encI)
  rw [e1] at hlim hsz
  replace hsz : g'.size ≤ g.size + _ := hsz
  have h1 := s.lm
  have h2 := s.sz
  have h3 := s.lg.r.sg
  refine (append_ok wr L h d g B k v _ 0 d' g' e1 s.kd s.la hE P.hi P.l P.b4 s.lg.r.acc (by omega) (by rw [s.lg.r.rm]; decide) hv f4 (fun r hr => Nat.le_trans (f2 r hr) (by decide)) (by omega) (by omega) (by omega) (by omega)).mono ?_
  rintro e w' ⟨rfl, k', a', o'⟩
  exact ⟨rfl, d', g', ⟨l', hlim.trans h1, by omega, k', a', s.bel.trans o'.bel⟩, o'⟩
theorem law_add (P : Plc h B L H) (s : HdS wr p H k A hg) (hA : OksM [] A) (hAl : A.length ≤ 8 * k) (hk : k < 10) (v : Value) (lq : List Pv) (hv : PtB wr v lq) (hp : PsI A lq) (sl : LgS B w0 wr h L (k + 1) (A ++ lq.map plP) d g) :
    Calls Tryz.prog 13 #[.pointer (some ⟨p, 0, none⟩), v] wr fun e w' => e = .returned (.tuple #[]) ∧ ∃ hg', LgS B w0 w' h L (k + 1) (A ++ lq.map plP) d g ∧ HdS w' p H (k + 1) (A ++ lq.map plP) hg' ∧ Below H wr w' := by
  have hl := st_len A
  have h8 := hp.len
  have hn := s.n
  refine (hadds_any p H cfg9 _ hg lq v wr s.hd hv hp.ok (Gd.adds Gd.nil hA) s.nx s.size (by omega) (by omega) (fun r hr => by have := st_rows A r hr; omega)).mono ?_
  rintro e w' ⟨hg', rfl, h1, h2, h3, h4, h5⟩
  have happ : addMs (addMs [] A) (lq.map plP) = addMs [] (A ++ lq.map plP) := by unfold addMs; rw [List.foldl_append]
  rw [happ] at h1 h5
  rw [List.length_map] at h4
  exact ⟨rfl, hg', sl.high P h2.bel, ⟨h1, h5, by omega⟩, h2.bel⟩
theorem law_select (s : HdS wr p H k A hg) (hA : OksM [] A) (hAl : A.length ≤ 100) :
    Calls Tryz.prog 15 #[.pointer (some ⟨p, 0, none⟩), .int .i64 0, .int .i64 1099511627776, .slice none 0 0] wr (RetSel wr (addMs [] A)) := by
  have hl := st_len A
  exact hselect_any p H cfg9 _ hg wr s.hd (Gd.adds Gd.nil hA) (by omega) (fun r hr => by have := st_rows A r hr; omega)
theorem law_told {W : World} {v : Value} {t : List Rv} (hv : RwB W wr v t) (hA : OksM [] A) (hAl : A.length ≤ 100) (hs : SelR (addMs [] A) (t.map plR)) :
    Calls Tryz.prog 14 #[v] wr (RetRwT wr (t.map plR)) := by
  have hl := st_len A
  have hlen := hs.1.length_eq
  rw [List.length_map] at hlen
  refine told14O_any v t wr hv.tb (fun x hx => (hv.d x hx).2.buf) (by omega) (fun x hx => ?_)
  have hm := hs.1.mem_iff.1 (List.mem_map.2 ⟨x, hx, rfl⟩)
  have := ((Gd.adds Gd.nil hA).ok _ hm).2.1
  exact Nat.le_trans this (by decide)
end
end Go.Proofs.YtnoebccoaeiakaaGreatDoor

namespace Go.Proofs.YtnoebccoaeiakaaGreatDoor
open Go.RowKit Go.Bar Go.Bar.Wal Go.Bar.Leb Go.Bar.Frm Go.Bar.Lab Go.Bar.Xor Go.Bar.Mrg Go.Bar.Hd Go.Conc
theorem nd_inj {α β : Type} (f : α → β) : ∀ {l : List α}, (l.map f).Nodup → ∀ {x y : α}, x ∈ l → y ∈ l → f x = f y → x = y
  | [], _, x, y, hx, _, _ => by cases hx
  | a :: l, h, x, y, hx, hy, e => by
    rw [List.map_cons, List.nodup_cons] at h
    rcases List.mem_cons.1 hx with hx1 | hx1
    · rcases List.mem_cons.1 hy with hy1 | hy1
      · rw [hx1, hy1]
      · exact absurd (List.mem_map.2 ⟨y, hy1, e.symm.trans (congrArg f hx1)⟩) h.1
    · rcases List.mem_cons.1 hy with hy1 | hy1
      · exact absurd (List.mem_map.2 ⟨x, hx1, e.trans (congrArg f hy1)⟩) h.1
      · exact nd_inj f h.2 hx1 hy1 e
theorem addMs_app (A B : List Pnt) (h : List Row) : addMs h (A ++ B) = addMs (addMs h A) B := by unfold addMs; rw [List.foldl_append]
theorem oksM_app : ∀ (A : List Pnt) {B : List Pnt} {h : List Row}, OksM h A → OksM (addMs h A) B → OksM h (A ++ B)
  | [], _, _, _, hb => hb
  | _ :: A, _, _, ha, hb => ⟨ha.1, oksM_app A ha.2 hb⟩
theorem rows_kept {A ps : List Pnt} {t t' : List Rv} (ho : OksM [] (A ++ ps)) (h1 : SelR (addMs [] A) (t.map plR)) (h2 : SelR (addMs [] (A ++ ps)) (t'.map plR)) : ∀ r ∈ t, (∃ q ∈ t', q.ls = r.ls) ∧ ∀ q ∈ t', q.ls = r.ls → r.ss <+: q.ss := by
  intro r hr
  have g := Gd.adds Gd.nil ho
  have hx := h1.ext h2 (fun r hr => by rw [addMs_app]; exact addMs_ext ps _ r hr) (plR r) (List.mem_map.2 ⟨r, hr, rfl⟩)
  obtain ⟨q0, hq0, e1, e2⟩ := hx
  have hnd : ((t'.map plR).map (·.1)).Nodup := ((h2.1.map (·.1)).nodup_iff).2 g.nd
  obtain ⟨x, hx, rfl⟩ := List.mem_map.1 hq0
  refine ⟨⟨x, hx, e1⟩, fun q hq e => ?_⟩
  have : plR q = plR x := nd_inj (·.1) hnd (List.mem_map.2 ⟨q, hq, rfl⟩) hq0 (e.trans e1.symm)
  have e3 : q.ss = x.ss := congrArg Prod.snd this
  rw [e3]
  exact e2
structure CrI (B : Nat) (w0 wr : World) (h : Go.Bar.Wal.Hd) (A : List Pnt) (torn : Bool) (cs : List Int) (d : Ds) (R : List Row) : Prop where
  kd : DkAt wr h d
  bel : Below B w0 wr
  ac : ∃ c, Wal.Acc c d ∧ c ≤ 10000
  rm : d.room = 1048576
  op : ∃ l d' g', wOpen (d.crash cs) 150 = (0, d', g', l.map Go.Bar.Hd.encI) ∧ PresR x0 l ∧ l.length ≤ 80000 ∧ (runR x0 l).h = R
  ex : ∃ ps, OksM [] (A ++ ps) ∧ R = addMs [] (A ++ ps) ∧ ps.length ≤ 8
  wh : torn = false → R = addMs [] A
  ok : OksM [] A
  len : A.length ≤ 80
section
variable {B L k p H : Nat} {w0 wr w' : World} {h : Go.Bar.Wal.Hd} {A : List Pnt} {d : Ds} {g : Lg} {hg : Hg} {torn : Bool} {cs : List Int} {R : List Row}
theorem its_few {A ps : List Pnt} (h1 : A.length ≤ 80) (h2 : ps.length ≤ 8) (j : Nat) : (its [] A ++ (its (addMs [] A) ps).take j).length ≤ 80000 := by
  rw [List.length_append]
  have := its_len A []
  have := its_len ps (addMs [] A)
  have := List.length_take_le' j (its (addMs [] A) ps)
  omega
theorem LgS.cr (s : LgS B w0 wr h L k A d g) (hk : k ≤ 10) (cs : List Int) : CrI B w0 wr h A torn cs d (addMs [] A) := by
  have hA := s.lg.len
  obtain ⟨a1, a2, _, d', g', a3⟩ := s.lg.whole (by omega) cs 150
  obtain ⟨b1, m, b2⟩ := log_replay (A := A) (B := []) s.lg.ok trivial (by simp only [List.length_nil]; omega) 0
  have h1 := its_few (A := A) (ps := []) (by omega) (by decide) 0
  rw [List.take_zero, List.append_nil] at b1 b2 h1
  rw [List.take_nil] at b2
  exact ⟨s.kd, s.bel, ⟨k, a1, by omega⟩, a2, ⟨_, d', g', a3, b1, h1, b2⟩, ⟨[], by rw [List.append_nil]; exact s.lg.ok, by rw [List.append_nil], by decide⟩, fun _ => rfl, s.lg.ok, by omega⟩
theorem CrI.below (c : CrI B w0 wr h A torn cs d R) (hi : h.Hi B) (hb : Below wr.heap.size wr w') : CrI B w0 w' h A torn cs d R :=
  ⟨c.kd.below hb, c.bel.trans (hb.mono (hiA c.kd hi)), c.ac, c.rm, c.op, c.ex, c.wh, c.ok, c.len⟩
theorem law_torn (P : Plc h B L H) (s : LgS B w0 wr h L k A d g) (hk : k < 10) {z : Fz} (hz : z.q.length ≤ 16) {wx : World} (kd : DkAt wx h { d with fz := z }) (la : LgAt wx L h g) (bel : Below B w0 wx) (hE : EnvAt wx) (v : Value) (lq : List Pv) (hp : PsI A lq) (hv : RecsAt wx v ((its (addMs [] A) (lq.map plP)).map Go.Bar.Hd.encI)) (cs : List Int) :
    Calls Tryz.prog 12 #[.pointer (some ⟨L, 0, none⟩), v] wx fun e w' => ∃ (n : Nat) (d2 : Ds) (R : List Row), e = .returned (.int .i64 (n : Nat)) ∧ CrI B w0 w' h A true cs d2 R ∧ Off LTs B wx w' := by
  obtain ⟨f1, f2, f3, f4⟩ := law_few s.lg (by omega) hp
  have hA := s.lg.len
  have h8 := hp.len
  obtain ⟨b1, b2, j, d', g', b3⟩ := s.lg.torn (B := lq.map plP) (by omega) hp.ok hp.sm (by rw [List.length_map]; exact hp.len) hz cs 150
  obtain ⟨e, d2, g2, he⟩ : ∃ e d2 g2, wAppend { d with fz := z } g ((its (addMs [] A) (lq.map plP)).map Go.Bar.Hd.encI) = (e, d2, g2) := ⟨_, _, _, rfl⟩
  rw [he] at b1 b2 b3
  have h1 := s.lm
  have h2 := s.sz
  have h3 := s.lg.r.sg
  obtain ⟨c1, m, c2⟩ := log_replay (A := A) (B := lq.map plP) s.lg.ok hp.ok (by rw [List.length_map]; omega) j
  rw [← addMs_app] at c2
  refine (append_ok wx L h _ g B k v _ e d2 g2 he kd la hE P.hi P.l P.b4 (s.lg.r.acc.fuse hz) (by omega) (by show d.room ≤ _; rw [s.lg.r.rm]; decide) hv f4 (fun r hr => Nat.le_trans (f2 r hr) (by decide)) (by omega) (by omega) (by omega) (by omega)).mono ?_
  rintro e w' ⟨rfl, k', a', o'⟩
  refine ⟨_, d2, _, rfl, ⟨k', bel.trans o'.bel, ⟨k + 1, b1, by omega⟩, b2, ⟨_, d', g', b3, c1, its_few (by omega) (by rw [List.length_map]; exact h8) j, c2⟩, ⟨(lq.map plP).take m, oksM_app A s.lg.ok (oksM_take hp.ok m), rfl, ?_⟩, fun e => (by cases e), s.lg.ok, by omega⟩, o'⟩
  have := List.length_take_le' m (lq.map plP)
  rw [List.length_map] at this
  omega
theorem law_crash (hi : h.Hi B) (c : CrI B w0 wr h A torn cs d R) (A2 : Option Addr) (c2 : Nat) (hcn : cs.length ≤ 9223372036854775807) (hcs : ∀ w', Below B w0 w' → SlAt w' 1 (.slice A2 cs.length c2) cs.length (zcs cs)) :
    Calls Tryz.prog 16 #[.pointer (some ⟨h.D, 0, none⟩), .slice A2 cs.length c2] wr fun e w' => e = .returned (.tuple #[]) ∧ DkAt w' h (d.crash cs) ∧ Off LTs B wr w' := by
  obtain ⟨n, a1, a2⟩ := c.ac
  refine (crash_any wr h d B n c.kd hi a1 (by omega) (by rw [c.rm]; decide) A2 c2 cs hcn (fun w' hb => hcs w' (c.bel.trans hb))).mono ?_
  rintro e w' ⟨h1, h2, h3⟩
  exact ⟨h1, h2, h3.wide dlt⟩
theorem law_open2 (hi : h.Hi B) (hB4 : 4 ≤ B) (c : CrI B w0 wr h A torn cs d R) {wx : World} (kd : DkAt wx h (d.crash cs)) (hE : EnvAt wx) :
    Calls Tryz.prog 6 #[.pointer (some ⟨h.D, 0, none⟩), .int .i64 150] wx fun e w' => ∃ L2 A2 c2 l, e = .returned (.tuple #[.pointer (some ⟨L2, 0, none⟩), .slice A2 (List.length (α := It) l) c2, .int .i64 0]) ∧ Off LTs B wx w' ∧ Buf w' 112 2 (.slice A2 l.length c2) l.length (frcs (l.map Go.Bar.Hd.encI)) ∧ PresR x0 l ∧ l.length ≤ 80000 ∧ (runR x0 l).h = R := by
  obtain ⟨n, a1, a2⟩ := c.ac
  obtain ⟨l, d', g', o1, o2, o3, o4⟩ := c.op
  refine (open_ok wx h _ B n 150 d' g' _ o1 kd hE hi hB4 (a1.crash cs) a2 (by show d.room ≤ _; rw [c.rm]; decide)).mono ?_
  rintro e w' ⟨L2, A2, c2, rfl, _, _, _, o, hb⟩
  rw [List.length_map] at hb ⊢
  exact ⟨L2, A2, c2, l, rfl, o, hb, o2, o3, o4⟩
theorem law_select2 {c : Cfg} {A : List Pnt} (s : HdAt Tryz.prog hty 3 wr p H c (addMs [] A) hg) (hA : OksM [] A) (hAl : A.length ≤ 100) :
    Calls Tryz.prog 15 #[.pointer (some ⟨p, 0, none⟩), .int .i64 0, .int .i64 1099511627776, .slice none 0 0] wr (RetSel wr (addMs [] A)) := by
  have hl := st_len A
  exact hselect_any p H c _ hg wr s (Gd.adds Gd.nil hA) (by omega) (fun r hr => by have := st_rows A r hr; omega)
end
end Go.Proofs.YtnoebccoaeiakaaGreatDoor

namespace Go.Proofs.YtnoebccoaeiakaaGreatDoor
open Go.RowKit Go.Bar Go.Bar.Leb Go.Bar.Lab Go.Bar.Xor Go.Bar.Mrg Go.ChangeShapes Go.WideShapes Go.ChangeAt

def LsArg (W : World) (v : Value) (ls : List (List On3)) : Prop := ∃ vs : List Value, SlAt W 1 v ls.length vs ∧ vs.length = ls.length ∧ ∀ (i : Nat) (l : List On3), ls[i]? = some l → ∃ u, vs[i]? = some u ∧ O3Arg W u l
set_option maxRecDepth 100000 in
theorem open_lists14 {H : Type} {enc : TypeId × Value → H} {W : World} {base b0 : Nat} {spare : Nat → Bool} {held : Bool} {r : Reach} {v : Value} {d : DataW H} {p : List MemPlace} (hval : Value.okWide Tryz.prog W r b0 22 v)
    (h : DataW.Trod enc Tryz.prog W base spare held 22 v d p) : ∃ ls, LsArg W v ls := by
  obtain ⟨A, len, cap, rfl⟩ := okWide_slice Tryz.underlying22 hval
  obtain ⟨k, hk⟩ := h
  have e : (Value.slice A len cap).cells.toList = [.slice A len cap] := by simp [Value.cells]
  rw [e] at hk
  obtain ⟨A, n, c, he, hnc, hcm, hx⟩ := open_ones_raw Tryz.underlying22 (by kernel_rfl) hk
  rw [he]
  rcases Nat.eq_zero_or_pos n with h0 | h0
  · subst h0
    exact ⟨[], [], ⟨rfl, A, c, rfl, hnc, hcm, fun h => absurd h (by simp)⟩, rfl, by simp⟩
  · obtain ⟨b, o, rfl, hb, hf⟩ := hx h0
    obtain ⟨rs, hl, ht⟩ := list_of (fun i (x : Value × List On3) => W.cell? ⟨b, o + i, none⟩ = some x.1 ∧ O3Arg W x.1 x.2) n (fun i hi => by
      obtain ⟨x0, y0, k0, c0, t0⟩ := hf i hi
      obtain ⟨l, hl, ho⟩ := open_ones14 t0
      exact ⟨(x0, l), c0, hl, ho⟩)
    refine ⟨rs.map (·.2), rs.map (·.1), ⟨by simp, some ⟨b, o, none⟩, c, by rw [List.length_map, hl], by rw [List.length_map, hl]; exact hnc, hcm, fun _ => ⟨b, o, rfl, hb, fun j hj => ?_⟩⟩, by simp, fun i l hi => ?_⟩
    · rw [List.length_map] at hj
      have hlt : j < rs.length := by omega
      have hg := List.getElem?_eq_getElem hlt
      rw [List.getElem?_map, hg]
      exact (ht j _ hg).1
    · rw [List.getElem?_map] at hi
      rcases hg : rs[i]? with _ | x
      · rw [hg] at hi; cases hi
      · rw [hg] at hi
        injection hi with hi
        subst hi
        exact ⟨x.1, by rw [List.getElem?_map, hg]; rfl, (ht i x hg).2⟩
end Go.Proofs.YtnoebccoaeiakaaGreatDoor

namespace Go.Proofs.YtnoebccoaeiakaaGreatDoor
open Go.RowKit Go.Bar Go.ChangeShapes Go.WideShapes Go.ChangeAt Go.Deep
theorem g_pow10 : Tryz.prog.globalNamed "internal/strconv.uint64pow10" = some 1 := by kernel_rfl
theorem t_pow10 : (Tryz.prog.globals[1]?).map (·.type) = some 290 := by kernel_rfl
theorem t_range : (Tryz.prog.globals[3]?).map (·.type) = some 192 := by kernel_rfl
theorem t_syntax : (Tryz.prog.globals[2]?).map (·.type) = some 192 := by kernel_rfl
theorem iface_laid {W : World} {n nm : String} {d : DataW Unit} {r : List (String × DataW Unit)} {g : Nat} (h : laidMet Tryz.prog ((n, .iface nm d) :: r) W) (hg : Tryz.prog.globalNamed n = some g) (ht : (Tryz.prog.globals[g]?).map (·.type) = some 192) : ∃ tp p, W.var? Tryz.prog n = some #[.iface tp p] := by
  obtain ⟨ps, ⟨g0, t0, cs0, f0, p0, q0, hg0, ht0, hv0, hd0, _, _⟩, _, _⟩ := h
  obtain rfl := Option.some.inj (ht.symm.trans ((congrArg (fun g => (Tryz.prog.globals[g]?).map (·.type)) (Option.some.inj (hg.symm.trans hg0))).trans ht0))
  obtain ⟨_, u, v, e, _, _⟩ := iface_of_trod Tryz.underlying192 hd0
  refine ⟨u, v, hv0.trans (congrArg some ?_)⟩
  rw [← Array.toList_inj, e]

end Go.Proofs.YtnoebccoaeiakaaGreatDoor

namespace Go.Proofs.YtnoebccoaeiakaaGreatDoor
open Go.RowKit Go.Bar Go.Bar.Wal Go.Bar.Leb Go.Bar.Frm Go.Conc Go.ChangeShapes Go.WideShapes Go.ChangeAt Go.Deep

section
variable {H : Type} {enc : TypeId × Value → H} {W : World} {base : Nat} {spare : Nat → Bool} {held : Bool}

end

def IntsAt (W : World) (v : Value) (cs : List Int) : Prop := SlAt W 1 v cs.length (zcs cs) ∧ ∀ c ∈ cs, -9223372036854775808 ≤ c ∧ c ≤ 9223372036854775807

set_option maxRecDepth 100000 in
theorem open_ints_raw {H : Type} {enc : TypeId × Value → H} {W : World} {base : Nat} {spare : Nat → Bool} {held : Bool} {x : Value} {y : DataW H × List MemPlace} {fuel : Nat} (hk : DataW.trod enc Tryz.prog W base spare held fuel 23 [x] = some y) : ∃ cs, IntsAt W x cs := by
  obtain ⟨A, n, c, rfl, hnc, hcm, hx⟩ := open_ones_raw Tryz.underlying23 (by kernel_rfl) hk
  rcases Nat.eq_zero_or_pos n with h0 | h0
  · subst h0
    exact ⟨[], ⟨rfl, A, c, rfl, hnc, hcm, fun h => absurd h (by simp)⟩, by simp⟩
  · obtain ⟨b, o, rfl, hb, hf⟩ := hx h0
    obtain ⟨rs, hl, ht⟩ := list_of (fun i (x : Int) => W.cell? ⟨b, o + i, none⟩ = some (.int .i64 x) ∧ -9223372036854775808 ≤ x ∧ x ≤ 9223372036854775807) n (fun i hi => by
      obtain ⟨x0, y0, k0, c0, t0⟩ := hf i hi
      obtain ⟨n0, e0, _, w0⟩ := DataW.trod_int Tryz.underlying3 t0
      replace e0 : x0 = _ := (List.cons.inj e0).1
      subst e0
      exact ⟨n0, c0, bounds_i64 w0⟩)
    refine ⟨rs, ⟨by simp [zcs], some ⟨b, o, none⟩, c, by rw [hl], by rw [hl]; exact hnc, hcm, fun _ => ⟨b, o, rfl, hb, fun j hj => ?_⟩⟩, fun x hx => by obtain ⟨i, hi⟩ := List.mem_iff_getElem?.1 hx; exact (ht i x hi).2⟩
    have hlt : j < rs.length := by omega
    have hg := List.getElem?_eq_getElem hlt
    refine ((ht j _ hg).1).trans ?_
    unfold zcs
    rw [List.getElem?_map, hg]
    rfl

set_option maxRecDepth 100000 in
theorem open_ints_ {H : Type} {enc : TypeId × Value → H} {W : World} {base b0 : Nat} {spare : Nat → Bool} {held : Bool} {r : Reach} {v : Value} {d : DataW H} {p : List MemPlace} (hval : Value.okWide Tryz.prog W r b0 23 v)
    (h : DataW.Trod enc Tryz.prog W base spare held 23 v d p) : ∃ cs, IntsAt W v cs := by
  obtain ⟨A, len, cap, rfl⟩ := okWide_slice Tryz.underlying23 hval
  obtain ⟨k, hk⟩ := h
  have e : (Value.slice A len cap).cells.toList = [.slice A len cap] := by simp [Value.cells]
  rw [e] at hk
  exact open_ints_raw hk

end Go.Proofs.YtnoebccoaeiakaaGreatDoor

namespace Go.Bar.Idt
open Go.RowKit Go.Bar

def signs : List UInt8 := [48, 49, 50, 51, 52, 53, 54, 55, 56, 57, 97, 98, 99, 100, 101, 102, 103, 104, 106, 107, 109, 110, 112, 113, 114, 115, 116, 118, 119, 120, 121, 122]
theorem signs_length : signs.length = 32 := rfl
def sgn (k : Nat) : UInt8 := signs.getD k 0
def ix (c : UInt8) : Int := Lib.indexByte signs c

def dg : Nat → Nat → List UInt8
  | 0, _ => []
  | m + 1, n => dg m (n / 32) ++ [sgn (n % 32)]
theorem dg_length : ∀ m n, (dg m n).length = m
  | 0, _ => rfl
  | m + 1, n => by rw [dg, List.length_append, dg_length m]; rfl
theorem dg_cons : ∀ (m n : Nat), dg (m + 1) n = sgn (n / 32 ^ m % 32) :: dg m n
  | 0, n => by simp [dg]
  | m + 1, n => by
    rw [dg, dg_cons m (n / 32), dg, Nat.div_div_eq_div_mul, Nat.pow_succ, Nat.mul_comm (32 ^ m) 32]
    rfl

def num : Nat → List UInt8 → Option Nat
  | acc, [] => some acc
  | acc, c :: r => if ix c < 0 then none else num (32 * acc + (ix c).toNat) r

def mk (t s : Nat) : List UInt8 := dg 8 t ++ dg 8 s
def parse (l : List UInt8) : Option (Nat × Nat) :=
  if l.length ≠ 16 then none else match num 0 (l.take 8), num 0 (l.drop 8) with
    | some a, some b => some (a, b)
    | _, _ => none

def parts : List (List UInt8) := [[99, 104, 117, 110, 107, 115], [105, 110, 100, 101, 120], [109, 101, 116, 97], [109, 97, 114, 107]]
def split (l : List UInt8) : Option (List UInt8 × List UInt8) :=
  if 17 ≤ l.length ∧ l[16]? = some 47 ∧ (parse (l.take 16)).isSome = true ∧ l.drop 17 ∈ parts then some (l.take 16, l.drop 17) else none

end Go.Bar.Idt
