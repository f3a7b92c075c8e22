/-
  Layer 11 (wal): Open.
-/
import Derived.Test.YtcopknopifbebaaGreatDoorZWalEE
import Derived.Test.YtcopknopifbebaaGreatDoorZWrtA
import Derived.Test.YtcopknopifbebaaGreatDoorZWalV
import Derived.Test.YtcopknopifbebaaGreatDoorZFrmN
import Derived.KernelRfl

namespace Go.Bar.Wal
open Go.RowKit Go.Bar Go.Bar.Leb Go.Bar.Frm Go.Proofs
theorem Off.ap {Ts : TypeId → Prop} {B : Nat} {w wr w' : World} {sz : Nat} {v : Value} (o : Off Ts B w wr) (hB : B ≤ w.heap.size) (ha : Ap wr w' sz v) (hv : ∀ k, v.ownBlock = some k → w.heap.size ≤ k) : Off Ts B w w' := by
  have hk : ∀ k, k < w.heap.size → w'.heap[k]? = wr.heap[k]? := fun k hlt => by
    rcases ha.block k (Nat.lt_of_lt_of_le hlt o.size) with h1 | ⟨o', n', c, cur1, cur', e1, fr, rfl, _⟩
    · exact h1
    · exact absurd (hv k rfl) (by omega)
  refine ⟨⟨ha.os.trans o.kc.os, ha.tape.trans o.kc.tape, ha.output.trans o.kc.output, Nat.le_trans o.kc.size ha.size, fun k cur T fr he ht => ?_⟩, ⟨ha.os.trans o.bel.os, ha.tape.trans o.bel.tape, ha.output.trans o.bel.output, Nat.le_trans o.bel.size ha.size, fun k hlt => ?_⟩⟩
  · rw [hk k (Array.getElem?_eq_some_iff.1 he).1]
    exact o.kc.block k cur T fr he ht
  · rw [hk k (by omega)]
    exact o.bel.block k hlt
theorem recs_len (s : List UInt8) : (recs s).length ≤ s.length := by
  have h := (whole_eq s.length s (Nat.le_refl _)).1
  have h2 := congrArg List.length h
  rw [List.length_append] at h2
  have h3 : (recs s).length ≤ (laid (recs s)).length := by
    have : ∀ rs : List Rc, rs.length ≤ (laid rs).length := fun rs => by
      induction rs with
      | nil => exact Nat.zero_le _
      | cons r rs ih =>
        rw [laid_cons, List.length_append, List.length_cons, rec_len]
        omega
    exact this _
  omega
theorem openS_room (d : Ds) (n : Nat) : (openS d n).2.room = d.room := by
  unfold openS
  split
  · exact truncate_room _ _ _
  · exact sync_room _ _
theorem openL_room : ∀ (l : List Nat) (d : Ds) (all : List Rc) (seg size : Nat), (openL l d all seg size).2.1.room = d.room
  | [], d, all, seg, size => rfl
  | n :: l, d, all, seg, size => by
    rw [openL]
    split
    · rfl
    · split
      · exact openS_room d n
      · rw [openL_room l, openS_room]
theorem wOpen_room (d : Ds) (limit : Int) : (wOpen d limit).2.1.room = d.room := by
  unfold wOpen
  split <;> exact openL_room _ _ _ _ _
end Go.Bar.Wal
namespace Go.Proofs.YtcopknopifbebaaGreatDoor
open Go.RowKit Go.Bar Go.Bar.Wal Go.Bar.Leb Go.Bar.Frm Go.Conc
theorem nd_rec : ¬ DTs 34 := fun c => by rcases c with c | c | c <;> exact absurd c (by decide)
theorem ndk_rec : NDk 34 := ⟨by decide, by decide⟩
attribute [local go_sem] Oper.semAt_some

theorem read_small {c : Nat} {d : Ds} (ha : Wal.Acc c d) (n : Nm) : ((d.read n).1.length : Int) ≤ d.room ∧ ((d.read n).2 = 0 ∨ (d.read n).2 = 5) := by
  unfold Ds.read
  have h1 := ha.use
  have h2 := ha.room
  cases hf : fnd d.fs n with
  | none => exact ⟨by show ((0 : Nat) : Int) ≤ _; omega, .inr rfl⟩
  | some f =>
    have h3 := len_le_tot d.fs n
    rw [len_some hf] at h3
    exact ⟨by show ((f.s.length : Nat) : Int) ≤ _; omega, .inl rfl⟩
theorem frcs_append (a b : List Rc) : frcs (a ++ b) = frcs a ++ frcs b := List.flatMap_append
def OpTo (B : Nat) (w : World) (h : Hd) (r : Nat × Ds × Lg × List Rc) (en : Ending) (w' : World) : Prop :=
  DkAt w' h r.2.1 ∧ Off LTs B w w' ∧ ((r.1 ≠ 0 ∧ en = .returned (.tuple #[.pointer none, .slice none 0 0, .int .i64 (r.1 : Nat)])) ∨
    (r.1 = 0 ∧ ∃ L v, en = .returned (.tuple #[.pointer (some ⟨L, 0, none⟩), v, .int .i64 0]) ∧ LgAt w' L h r.2.2.1 ∧ w.heap.size ≤ L ∧ Buf w' 34 2 v r.2.2.2.length (frcs r.2.2.2)))
set_option maxHeartbeats 8000000 in
set_option maxRecDepth 10000 in
theorem lOpen_any (w : World) (h : Hd) (d : Ds) (B c : Nat) (limit : Int) (k : DkAt w h d) (hE : EnvAt w) (hB : h.Hi B) (hB4 : 4 ≤ B) (ha : Wal.Acc c d) (hc : c ≤ 10000) (hr : d.room ≤ 10000000) :
    Calls Tryz.prog 12 #[.pointer (some ⟨h.D, 0, none⟩), .int .i64 limit] w (OpTo B w h (wOpen d limit)) := by
  have hB0 := hiA k hB
  have hE0 := Lib.hid hE
  have hsm := fun n (hn : n ∈ segsOf d) => segs_small ha hn
  have hslen : (segsOf d).length ≤ 10000 := by
    unfold segsOf
    rw [List.length_mergeSort]
    refine Nat.le_trans (List.length_filter_le _ _) ?_
    rw [List.length_map]
    unfold Ds.list
    refine Nat.le_trans (List.length_filter_le _ _) ?_
    rw [List.length_map]
    exact Nat.le_trans ha.num hc
  obtain ⟨r, hre⟩ : ∃ r, r = wOpen d limit := ⟨_, rfl⟩
  have hrt : ∀ q, openL (segsOf d) d [] 1 0 = q → r = if q.1 ≠ 0 then (q.1, q.2.1, (⟨0, 0, 0, false⟩ : Lg), []) else (0, q.2.1, (⟨max limit 1, q.2.2.2.1, q.2.2.2.2, false⟩ : Lg), since q.2.2.1) := fun q hq => by
    rw [hre, ← hq]; rfl
  rw [← hre]
  clear hre
  have hsegs := fun w' (k' : DkAt w' h d) (hE' : EnvAt w') => segments_any w' h d c k' hE' ha (by omega)
  obtain ⟨O, hO⟩ : ∃ O, O = segsOf d := ⟨_, rfl⟩
  rw [← hO] at hrt hsm hslen
  simp only [← hO] at hsegs
  clear hO
  replace hsegs := Lib.hid hsegs
  replace hrt := Lib.hid hrt
  obtain ⟨M, hM⟩ : ∃ M, M = max limit 1 := ⟨_, rfl⟩
  have hMx := Lib.hid hM
  rw [← hM] at hrt
  clear hM
  go_enter Tryz.func12, Tryz.ntmps12
  go_upto_region 3 with fail
  have hb1 : Below w.heap.size w (w.alloc (.cells #[.pointer (some ⟨h.D, 0, none⟩), .int .i64 (max limit 1), .int .i64 1, .int .i64 0, .bool false] 82)) := (Below.refl _ _).alloc (Nat.le_refl _) _
  have l1 : LgAt (w.alloc (.cells #[.pointer (some ⟨h.D, 0, none⟩), .int .i64 (max limit 1), .int .i64 1, .int .i64 0, .bool false] 82)) w.heap.size h ⟨max limit 1, 1, 0, false⟩ := Blk.new w _ _
  obtain ⟨w1, hw1⟩ : ∃ w1, w1 = w.alloc (.cells #[.pointer (some ⟨h.D, 0, none⟩), .int .i64 (max limit 1), .int .i64 1, .int .i64 0, .bool false] 82) := ⟨_, rfl⟩
  rw [← hw1] at hb1 l1 ⊢
  clear hw1
  have k1 := k.below hb1
  have hE1 := hE.below hb1
  go_wp2_with (go_at_call 40; refine (hsegs.out w1 k1 hE1).mono ?_; rintro e w2 ⟨ov, rfl, hold⟩; obtain ⟨OA, oc, rfl, hlc, hcm⟩ := hold.slice.shape; unfold maxLen at hcm)
  have hb2 := hold.below
  have K2 := Lib.hid (k1.below hb2)
  have L2 := Lib.hid (l1.below hb2)
  have O2 : Hid (Off LTs B w w2) := Off.of_below (below_trans hb1 hb2) hB0
  have OB2 := Lib.hid hold.buf
  have HA := Lib.hid ha
  clear k1 hE1 hb1 hb2 l1 hold hsegs k hE ha
  go_loopw [7, 25] (fun av i wr => ∃ (j : Nat) (dj : Ds) (all : List Rc) (seg size : Nat), i = .int .i64 (j : Nat) ∧ j ≤ O.length ∧ dj.room ≤ 10000000 ∧ all.length ≤ j * 10000000 ∧ Hid (Wal.Acc c dj) ∧ Hid (openL O d [] 1 0 = openL (O.drop j) dj all seg size) ∧ Hid (DkAt wr h dj) ∧ Hid (LgAt wr w.heap.size h ⟨max limit 1, seg, size, false⟩) ∧ Hid (Off LTs B w wr) ∧ Hid (Buf wr 34 2 av all.length (frcs all)) ∧ Hid (∀ k, av.ownBlock = some k → w.heap.size ≤ k) ∧ Hid (Buf wr 3 1 (.slice OA O.length oc) O.length (ncs O))) (fun _ i _ => O.length - (intOf i).toNat)
  case atStart => exact ⟨0, d, [], 1, 0, rfl, Nat.zero_le _, hr, by decide, HA, rfl, K2, L2, O2, Buf.nil _ _ _, (fun k hk => by cases hk), OB2⟩
  case round =>
    obtain ⟨j, dj, all, seg, size, rfl, hj, hrj, hall, haj, hrem, hkj, hlj, hoj, hab, hav, hob⟩ := hrel
    by_cases hjl : j < O.length
    · obtain ⟨n, hn⟩ : ∃ n, O[j]? = some n := ⟨_, List.getElem?_eq_getElem hjl⟩
      obtain ⟨hn1, hn2⟩ := hsm n (List.mem_of_getElem? hn)
      obtain ⟨bb, oo, rfl, hlt, hcells⟩ := (SlAt.of_buf hob.out).cells (by omega)
      have hcell := hcells j _ (ncs_at hn)
      have hci : (0 : Int) ≤ (j : Int) := by omega
      have hci2 : (j : Int) < O.length := by omega
      have hj4 : j < 10000 := by omega
      have hdrop : O.drop j = n :: O.drop (j + 1) := by
        obtain ⟨hlt, e⟩ := List.getElem?_eq_some_iff.1 hn
        rw [List.drop_eq_getElem_cons hlt, e]
      obtain ⟨N, hN⟩ : ∃ N, N = segN n := ⟨_, rfl⟩
      obtain ⟨rd, hrd⟩ : ∃ rd, rd = dj.read N := ⟨_, rfl⟩
      obtain ⟨hrd1, hrd2⟩ := read_small haj.out N
      rw [← hrd] at hrd1 hrd2
      have HNM := Lib.hid (fun wx (hEx : EnvAt wx) => name_any wx hEx n (by omega))
      have HRD := Lib.hid (fun wx (kx : DkAt wx h dj) => dRead_any wx h dj kx N (by rw [hN]; unfold maxLen; omega))
      have hNl : N.length ≤ maxLen := by rw [hN]; unfold maxLen; omega
      obtain ⟨os, hos⟩ : ∃ os, os = openS dj n := ⟨_, rfl⟩
      have haos : Hid (Wal.Acc c os.2) := by rw [hos]; exact haj.out.openS n
      have hros : os.2.room = dj.room := by rw [hos]; exact openS_room dj n
      have hstep0 := hrem.out
      rw [hdrop, openL, ← hN, ← hrd, ← hos] at hstep0
      have hoe : os = if rd.1.length - (left rd.1).length < rd.1.length then dj.truncate N (rd.1.length - (left rd.1).length) else dj.sync N := by rw [hos, hrd, hN]; rfl
      rw [← hN] at HNM
      rw [← hrd] at HRD
      have hll := left_le rd.1
      obtain ⟨S, er⟩ := rd
      simp only at hrd1 hrd2 HRD hstep0 hoe hll
      replace hstep0 := Lib.hid hstep0
      have hb0 := hiA hkj.out hB
      clear hdrop hN hrd hn hcells hrem hos
      have kj := hkj.out
      rcases hrd2 with rfl | rfl
      · obtain ⟨RL, hRL⟩ : ∃ RL, RL = recs S := ⟨_, rfl⟩
        obtain ⟨sz, hsz⟩ : ∃ sz, sz = S.length - (left S).length := ⟨_, rfl⟩
        have hszz : (S.length : Int) - ((left S).length : Nat) = ((sz : Nat) : Int) := by omega
        have hRLl : RL.length ≤ 10000000 := by rw [hRL]; have := recs_len S; omega
        have hall2 := Lib.hid (fun wx => all_any S wx (by omega))
        have hstep := hstep0.out
        rw [if_neg (fun h => h rfl)] at hstep
        rw [← hRL, ← hsz] at hstep
        rw [← hsz] at hoe
        simp only [← hRL, hszz] at hall2
        have hszl : sz ≤ S.length := by omega
        have hSZ2 : (sz : Int) ≤ 10000000 := by omega
        replace hstep := Lib.hid hstep
        clear hRL hsz hszz hstep0 hll
        have hSl2 : S.length ≤ 10000000 := by omega
        by_cases hcut : sz < S.length
        · have hose : os = dj.truncate N sz := by rw [hoe, if_pos hcut]
          have hcz : (sz : Int) < (S.length : Int) := by omega
          clear hoe
          go_upto_region 10 with (first
            | (go_at_call 25; refine (HNM.out _ (EnvAt.bel hE0.out hoj.out.bel hB4)).mono ?_; rintro e w3 ⟨rfl, hb3⟩; have k3 := hkj.out.below hb3)
            | (go_at_call 23; refine (HRD.out _ k3).mono ?_; rintro e w3b ⟨rfl, hb3b⟩; have hbA := below_trans hb3 hb3b; have kA := hkj.out.below hbA; have oA := hoj.out.trans (Off.of_below hbA hb0))
            | (go_at_call 24; refine (hall2.out _).mono ?_; rintro e w4 ⟨rv, rfl, rbuf, hb4⟩))
          have rbl := Lib.hid hb4
          have kB := kA.below hb4
          have oB := oA.trans (Off.of_below hb4 (hiA kA hB))
          have lB := (hlj.out.below hbA).below hb4
          have abB := (hab.out.below hbA).below hb4
          have obB := (hob.out.below hbA).below hb4
          have rbB := rbuf
          have hcall := Lib.hid (fun wx (kx : DkAt wx h dj) => (dTrunc_any wx h dj B c kx hB haj.out (by omega) (by omega) N sz hNl (by unfold maxLen; omega) : Calls Tryz.prog 41 #[.pointer (some ⟨h.D, 0, none⟩), .string (bs N), .int .i64 (sz : Nat)] wx (DkTo B wx h (dj.truncate N sz).2 (.int .i64 ((dj.truncate N sz).1 : Nat)))))
          replace hcall : Hid (∀ wx, DkAt wx h dj → Calls Tryz.prog 41 #[.pointer (some ⟨h.D, 0, none⟩), .string (bs N), .int .i64 (sz : Nat)] wx (DkTo B wx h os.2 (.int .i64 (os.1 : Nat)))) := by
            have h1 := hcall.out
            rw [← hose] at h1
            exact h1
          by_cases hos0 : os.1 = 0
          · have hos1 : Hid (os.1 = 0) := hos0
            have hstep2 : Hid (openL O d [] 1 0 = openL (O.drop (j + 1)) os.2 (all ++ RL) n sz) := by have := hstep.out; rwa [if_neg (fun h => h hos0)] at this
            rw [hos0] at hcall
            clear hos0 hstep hose
            go_upto_region 12 with (first
              | (go_at_call 25; refine (HNM.out _ (EnvAt.bel hE0.out (oA.trans (Off.of_below rbl.out (hiA kA hB))).bel hB4)).mono ?_; rintro e w5 ⟨rfl, hb5⟩; have k5 := kB.below hb5)
              | (go_at_call 41; refine (hcall.out _ k5).mono ?_; rintro e w6 ⟨rfl, k6, o6⟩))
            have o45 : Off DTs B w4 w6 := (Off.of_below hb5 (hiA kB hB)).trans o6
            have lq := Lib.hid (LgAt.off lB o45)
            have kq := Lib.hid k6
            have oq := Lib.hid (oB.trans (o45.wide dlt))
            have ab := Lib.hid (o45.kc.buf abB nd_rec)
            have rb := Lib.hid (o45.kc.buf rbB nd_rec)
            have ob := Lib.hid (o45.kc.buf obB nd_int)
            clear k5 k6 o6 o45 lB kB oB abB rbB obB hcall hb5

            go_upto_region 17 with fail
            obtain ⟨A7, c7, rfl, hlc7, hcm7⟩ := (SlAt.of_buf ab.out).shape
            have hlen7 : all.length + RL.length ≤ (j + 1) * 10000000 := by omega
            have hsrc := (SlAt.of_buf rb.out).src (P := Tryz.prog) (by decide) (t := 23) Tryz.underlying23 (frcs_one RL)
            replace hsrc := Lib.hid hsrc
            go_upto_region 18 with (at_builtin; refine wpList_append_el rfl (.tmp 63) (.tmp 64) 23 23 rfl rec_ty rfl ab.out rfl hsrc.out (by simp only [maxLen]; omega) (by omega) ?_; intro v8 w8 hb8 ha8 hg8)
            have k8 := kq.out.ap ab.out ha8 ndk_rec
            have l8 : LgAt w8 w.heap.size h ⟨max limit 1, seg, size, false⟩ := Blk.ap lq.out ab.out ha8 (by decide)
            have ob8 := ob.out.keep_ap ab.out ha8 (by decide)
            have o8 := Off.ap oq.out hB0 ha8 hav.out
            have hav8 : ∀ k, v8.ownBlock = some k → w.heap.size ≤ k := hg8.new oq.out.size hav.out
            rw [← frcs_append] at hb8
            have l8 : Blk w8 w.heap.size 82 #[.pointer (some ⟨h.D, 0, none⟩), .int .i64 (max limit 1), .int .i64 (seg : Nat), .int .i64 (size : Nat), .bool false] := l8
            have f2 := l8.free 2
            have f3 := l8.free 3
            obtain ⟨d0, d1, d2, d3, d4⟩ := Blk.c5 l8
            have l9 := (l8.set 2 (.int .i64 (n : Nat))).set 3 (.int .i64 (sz : Nat))
            have k9 := (k8.other l8 ndk_log 2 (.int .i64 (n : Nat))).other (l8.set 2 (.int .i64 (n : Nat))) ndk_log 3 (.int .i64 (sz : Nat))
            have o9 := (o8.trans (Off.set l8 (.inr rfl) hB0 2 (.int .i64 (n : Nat)))).trans (Off.set (l8.set 2 (.int .i64 (n : Nat))) (.inr rfl) hB0 3 (.int .i64 (sz : Nat)))
            have ob9 := (ob8.set_ne l8 (by decide) 2 (.int .i64 (n : Nat))).set_ne (l8.set 2 (.int .i64 (n : Nat))) (by decide) 3 (.int .i64 (sz : Nat))
            have ab9 := (hb8.set_ne l8 (by decide) 2 (.int .i64 (n : Nat))).set_ne (l8.set 2 (.int .i64 (n : Nat))) (by decide) 3 (.int .i64 (sz : Nat))
            have K9 := Lib.hid k9
            have L9 := Lib.hid l9
            have O9 := Lib.hid o9
            have B9 := Lib.hid ob9
            have C9 := Lib.hid ab9
            have V9 := Lib.hid hav8
            clear k8 l8 ob8 o8 hb8 ha8 hg8 k9 l9 o9 ob9 ab9 hav8 ab hsrc
            go_wp2_with fail
            go_roundw
            case rel => exact ⟨j + 1, os.2, all ++ RL, n, sz, by go_num, by omega, by omega, by rw [List.length_append]; omega, haos, hstep2, K9.out, L9.out, O9.out, (by rw [List.length_append]; exact C9.out), V9.out, B9.out⟩
            case measure => simp [intOf]; omega
          · have hfin : Hid (r = (os.1, os.2, (⟨0, 0, 0, false⟩ : Lg), [])) := by
              have h1 := hstep.out
              rw [if_pos hos0] at h1
              have h2 := hrt.out _ h1
              rwa [if_pos hos0] at h2
            have hos2 : ¬ (os.1 : Int) = 0 := by omega
            have hos3 : Hid (¬ os.1 = 0) := hos0
            clear hstep hose
            go_wp2_with (first
              | (go_at_call 25; refine (HNM.out _ (EnvAt.bel hE0.out (oA.trans (Off.of_below rbl.out (hiA kA hB))).bel hB4)).mono ?_; rintro e w5 ⟨rfl, hb5⟩; have k5 := kB.below hb5)
              | (go_at_call 41; refine (hcall.out _ k5).mono ?_; rintro e w6 ⟨rfl, k6, o6⟩))
            go_ret3
            rw [hfin.out]
            exact ⟨k6, oB.trans (((Off.of_below hb5 (hiA kB hB)).trans o6).wide dlt), .inl ⟨hos3.out, rfl⟩⟩
        · have hose : os = dj.sync N := by rw [hoe, if_neg hcut]
          have hcz : ¬ (sz : Int) < (S.length : Int) := by omega
          clear hoe
          go_upto_region 10 with (first
            | (go_at_call 25; refine (HNM.out _ (EnvAt.bel hE0.out hoj.out.bel hB4)).mono ?_; rintro e w3 ⟨rfl, hb3⟩; have k3 := hkj.out.below hb3)
            | (go_at_call 23; refine (HRD.out _ k3).mono ?_; rintro e w3b ⟨rfl, hb3b⟩; have hbA := below_trans hb3 hb3b; have kA := hkj.out.below hbA; have oA := hoj.out.trans (Off.of_below hbA hb0))
            | (go_at_call 24; refine (hall2.out _).mono ?_; rintro e w4 ⟨rv, rfl, rbuf, hb4⟩))
          have rbl := Lib.hid hb4
          have kB := kA.below hb4
          have oB := oA.trans (Off.of_below hb4 (hiA kA hB))
          have lB := (hlj.out.below hbA).below hb4
          have abB := (hab.out.below hbA).below hb4
          have obB := (hob.out.below hbA).below hb4
          have rbB := rbuf
          have hcall := Lib.hid (fun wx (kx : DkAt wx h dj) => dSync_any wx h dj B c kx hB haj.out (by omega) (by omega) N hNl)
          replace hcall : Hid (∀ wx, DkAt wx h dj → Calls Tryz.prog 42 #[.pointer (some ⟨h.D, 0, none⟩), .string (bs N)] wx (DkTo B wx h os.2 (.int .i64 (os.1 : Nat)))) := by
            have h1 := hcall.out
            rw [← hose] at h1
            exact h1
          by_cases hos0 : os.1 = 0
          · have hos1 : Hid (os.1 = 0) := hos0
            have hstep2 : Hid (openL O d [] 1 0 = openL (O.drop (j + 1)) os.2 (all ++ RL) n sz) := by have := hstep.out; rwa [if_neg (fun h => h hos0)] at this
            rw [hos0] at hcall
            clear hos0 hstep hose
            go_upto_region 15 with (first
              | (go_at_call 25; refine (HNM.out _ (EnvAt.bel hE0.out (oA.trans (Off.of_below rbl.out (hiA kA hB))).bel hB4)).mono ?_; rintro e w5 ⟨rfl, hb5⟩; have k5 := kB.below hb5)
              | (go_at_call 42; refine (hcall.out _ k5).mono ?_; rintro e w6 ⟨rfl, k6, o6⟩))
            have o45 : Off DTs B w4 w6 := (Off.of_below hb5 (hiA kB hB)).trans o6
            have lq := Lib.hid (LgAt.off lB o45)
            have kq := Lib.hid k6
            have oq := Lib.hid (oB.trans (o45.wide dlt))
            have ab := Lib.hid (o45.kc.buf abB nd_rec)
            have rb := Lib.hid (o45.kc.buf rbB nd_rec)
            have ob := Lib.hid (o45.kc.buf obB nd_int)
            clear k5 k6 o6 o45 lB kB oB abB rbB obB hcall hb5

            go_upto_region 17 with fail
            obtain ⟨A7, c7, rfl, hlc7, hcm7⟩ := (SlAt.of_buf ab.out).shape
            have hlen7 : all.length + RL.length ≤ (j + 1) * 10000000 := by omega
            have hsrc := (SlAt.of_buf rb.out).src (P := Tryz.prog) (by decide) (t := 23) Tryz.underlying23 (frcs_one RL)
            replace hsrc := Lib.hid hsrc
            go_upto_region 18 with (at_builtin; refine wpList_append_el rfl (.tmp 63) (.tmp 64) 23 23 rfl rec_ty rfl ab.out rfl hsrc.out (by simp only [maxLen]; omega) (by omega) ?_; intro v8 w8 hb8 ha8 hg8)
            have k8 := kq.out.ap ab.out ha8 ndk_rec
            have l8 : LgAt w8 w.heap.size h ⟨max limit 1, seg, size, false⟩ := Blk.ap lq.out ab.out ha8 (by decide)
            have ob8 := ob.out.keep_ap ab.out ha8 (by decide)
            have o8 := Off.ap oq.out hB0 ha8 hav.out
            have hav8 : ∀ k, v8.ownBlock = some k → w.heap.size ≤ k := hg8.new oq.out.size hav.out
            rw [← frcs_append] at hb8
            have l8 : Blk w8 w.heap.size 82 #[.pointer (some ⟨h.D, 0, none⟩), .int .i64 (max limit 1), .int .i64 (seg : Nat), .int .i64 (size : Nat), .bool false] := l8
            have f2 := l8.free 2
            have f3 := l8.free 3
            obtain ⟨d0, d1, d2, d3, d4⟩ := Blk.c5 l8
            have l9 := (l8.set 2 (.int .i64 (n : Nat))).set 3 (.int .i64 (sz : Nat))
            have k9 := (k8.other l8 ndk_log 2 (.int .i64 (n : Nat))).other (l8.set 2 (.int .i64 (n : Nat))) ndk_log 3 (.int .i64 (sz : Nat))
            have o9 := (o8.trans (Off.set l8 (.inr rfl) hB0 2 (.int .i64 (n : Nat)))).trans (Off.set (l8.set 2 (.int .i64 (n : Nat))) (.inr rfl) hB0 3 (.int .i64 (sz : Nat)))
            have ob9 := (ob8.set_ne l8 (by decide) 2 (.int .i64 (n : Nat))).set_ne (l8.set 2 (.int .i64 (n : Nat))) (by decide) 3 (.int .i64 (sz : Nat))
            have ab9 := (hb8.set_ne l8 (by decide) 2 (.int .i64 (n : Nat))).set_ne (l8.set 2 (.int .i64 (n : Nat))) (by decide) 3 (.int .i64 (sz : Nat))
            have K9 := Lib.hid k9
            have L9 := Lib.hid l9
            have O9 := Lib.hid o9
            have B9 := Lib.hid ob9
            have C9 := Lib.hid ab9
            have V9 := Lib.hid hav8
            clear k8 l8 ob8 o8 hb8 ha8 hg8 k9 l9 o9 ob9 ab9 hav8 ab hsrc
            go_wp2_with fail
            go_roundw
            case rel => exact ⟨j + 1, os.2, all ++ RL, n, sz, by go_num, by omega, by omega, by rw [List.length_append]; omega, haos, hstep2, K9.out, L9.out, O9.out, (by rw [List.length_append]; exact C9.out), V9.out, B9.out⟩
            case measure => simp [intOf]; omega
          · have hfin : Hid (r = (os.1, os.2, (⟨0, 0, 0, false⟩ : Lg), [])) := by
              have h1 := hstep.out
              rw [if_pos hos0] at h1
              have h2 := hrt.out _ h1
              rwa [if_pos hos0] at h2
            have hos2 : ¬ (os.1 : Int) = 0 := by omega
            have hos3 : Hid (¬ os.1 = 0) := hos0
            clear hstep hose
            go_wp2_with (first
              | (go_at_call 25; refine (HNM.out _ (EnvAt.bel hE0.out (oA.trans (Off.of_below rbl.out (hiA kA hB))).bel hB4)).mono ?_; rintro e w5 ⟨rfl, hb5⟩; have k5 := kB.below hb5)
              | (go_at_call 42; refine (hcall.out _ k5).mono ?_; rintro e w6 ⟨rfl, k6, o6⟩))
            go_ret3
            rw [hfin.out]
            exact ⟨k6, oB.trans (((Off.of_below hb5 (hiA kB hB)).trans o6).wide dlt), .inl ⟨hos3.out, rfl⟩⟩
      · have hfin : Hid (r = (5, dj, (⟨0, 0, 0, false⟩ : Lg), [])) := by
          have h1 := hstep0.out
          rw [if_pos (show (5 : Nat) ≠ 0 by decide)] at h1
          have h2 := hrt.out _ h1
          rwa [if_pos (show (5 : Nat) ≠ 0 by decide)] at h2
        clear hstep0 hoe
        go_wp2_with (first
          | (go_at_call 25; refine (HNM.out _ (EnvAt.bel hE0.out hoj.out.bel hB4)).mono ?_; rintro e w3 ⟨rfl, hb3⟩; have k3 := hkj.out.below hb3)
          | (go_at_call 23; refine (HRD.out _ k3).mono ?_; rintro e w3b ⟨rfl, hb3b⟩; have hbA := below_trans hb3 hb3b; have kA := hkj.out.below hbA; have oA := hoj.out.trans (Off.of_below hbA hb0)))
        go_ret3
        rw [hfin.out]
        exact ⟨kA, oA, .inl ⟨show (5 : Nat) ≠ 0 by decide, rfl⟩⟩
    · have hje : j = O.length := by omega
      have hfin : Hid (r = (0, dj, (⟨max limit 1, seg, size, false⟩ : Lg), since all)) := by
        have h1 := hrem.out
        rw [hje, List.drop_length, openL] at h1
        have h2 := hrt.out _ h1
        rw [if_neg (fun h => h rfl), hMx.out] at h2
        exact h2
      have hj2 : (O.length : Int) ≤ (j : Int) := by omega
      have hallz : all.length ≤ 100000000000 := by omega
      have hsl : (since all).length ≤ all.length := by
        unfold since
        rw [List.length_reverse]
        exact Nat.le_trans (List.takeWhile_sublist _).length_le (by rw [List.length_reverse]; exact Nat.le_refl _)
      have hba : Below wr.heap.size wr (wr.alloc (.cells #[] 34)) := (Below.refl _ _).alloc (Nat.le_refl _) _
      have kz := hkj.out.below hba
      have lz := hlj.out.below hba
      have oz := hoj.out.trans (Off.of_below hba (hiA hkj.out hB))
      have hrec := SlAt.below (SlAt.of_buf hab.out) hba
      have hsin := Lib.hid (since_any _ all _ hrec)
      have hbz := Lib.hid (NBuf.lit0 (Below.refl _ wr) 34 2).buf
      clear hjl hrem hrec hje
      obtain ⟨SN, hSN⟩ : ∃ SN, SN = since all := ⟨_, rfl⟩
      rw [← hSN] at hfin hsin hsl
      clear hSN
      go_wp2_with (first
        | (go_at_call 43; refine hsin.out.mono ?_; rintro e w3 ⟨v3, rfl, hrv, rfl⟩; have hsrc := (show SlAt _ 2 v3 SN.length (frcs SN) from hrv).src (P := Tryz.prog) (by decide) (t := 23) Tryz.underlying23 (frcs_one SN); have hsr := Lib.hid hsrc; clear hsrc)
        | (at_builtin; refine wpList_append_el rfl (.tmp 76) (.tmp 78) 23 23 rfl rec_ty rfl hbz.out rfl hsr.out (by simp only [maxLen]; omega) (by omega) ?_; intro v8 w8 hb8 ha8 hg8))
      go_ret3
      rw [hfin.out]
      rw [Nat.zero_add, List.nil_append] at hb8
      exact ⟨kz.ap hbz.out ha8 ndk_rec, Off.ap oz hB0 ha8 (by
        intro k hk
        have h1 := hoj.out.size
        have h2 : wr.heap.size = k := by injection hk
        rw [← h2]; exact h1), .inr ⟨rfl, _, v8, rfl, Blk.ap lz hbz.out ha8 (by decide), Nat.le_refl _, hb8⟩⟩
end Go.Proofs.YtcopknopifbebaaGreatDoor

namespace Go.Bar.Wal
open Go.RowKit Go.Bar Go.Bar.Leb Go.Bar.Frm
def rdW (wide : Nat) (l : Fs) : List Rc := (l.filter fun p => decide (p.1.length = wide ∧ 0 < refNum p.1)).flatMap fun p => recs p.2.s
theorem refAll_rd (fs : Fs) : refAll fs = (List.range' 12 6).flatMap fun wide => rdW wide fs := by
  unfold refAll refFs rdW
  rw [List.flatMap_assoc]
theorem rdW_yes {wide : Nat} {l : Fs} {p : Nm × Fi} (h : p.1.length = wide ∧ 0 < refNum p.1) : rdW wide (l ++ [p]) = rdW wide l ++ recs p.2.s := by
  unfold rdW
  rw [List.filter_append, List.flatMap_append, List.filter_cons_of_pos (by simpa using h)]
  simp
theorem rdW_no {wide : Nat} {l : Fs} {p : Nm × Fi} (h : ¬ (p.1.length = wide ∧ 0 < refNum p.1)) : rdW wide (l ++ [p]) = rdW wide l := by
  unfold rdW
  rw [List.filter_append, List.flatMap_append, List.filter_cons_of_neg (by simpa using h)]
  simp
theorem rdW_len {wide M : Nat} : ∀ {l : Fs}, (∀ p ∈ l, p.2.s.length ≤ M) → (rdW wide l).length ≤ M * l.length
  | [], _ => by simp [rdW]
  | p :: l, h => by
    have h1 := rdW_len (wide := wide) (l := l) (fun q hq => h q (List.mem_cons_of_mem _ hq))
    have h2 := h p List.mem_cons_self
    have h3 := recs_len p.2.s
    unfold rdW at h1 ⊢
    rw [List.length_cons, Nat.mul_succ, List.filter_cons]
    split
    · rw [List.flatMap_cons, List.length_append]; omega
    · omega
theorem rdA_len {M q : Nat} {fs : Fs} (h : ∀ p ∈ fs, p.2.s.length ≤ M) : ((List.range' 12 q).flatMap fun wide => rdW wide fs).length ≤ M * fs.length * q := by
  induction q with
  | zero => simp
  | succ q ih =>
    rw [List.range'_concat, List.flatMap_append, List.length_append, Nat.mul_succ]
    have := rdW_len (wide := 12 + 1 * q) h
    simp only [List.flatMap_cons, List.flatMap_nil, List.append_nil]
    omega
end Go.Bar.Wal
namespace Go.Proofs.YtcopknopifbebaaGreatDoor
open Go.RowKit Go.Bar Go.Bar.Wal Go.Bar.Leb Go.Bar.Frm

set_option maxHeartbeats 4000000 in
set_option maxRecDepth 10000 in
theorem rRead_any (nv tv : Value) (fs : Fs) (w : World) (hn : SlAt w 1 nv fs.length (scs (fs.map (·.1)))) (ht : SlAt w 1 tv fs.length (scs (fs.map (·.2.s)))) (hL : fs.length ≤ 100) (hM : ∀ p ∈ fs, p.1.length ≤ maxLen ∧ p.2.s.length ≤ 100000) :
    Calls Tryz.prog 37 #[nv, tv] w (RRet w (Wal.since (Wal.refAll fs))) := by
  obtain ⟨A, c, rfl, hlc, hcm⟩ := hn.shape
  obtain ⟨A2, c2, rfl, hlc2, hcm2⟩ := ht.shape
  unfold maxLen at hcm hcm2
  have hM2 : ∀ p ∈ fs, p.2.s.length ≤ 100000 := fun p hp => (hM p hp).2
  have HA := Lib.hid (fun q => rdA_len (q := q) hM2)
  have HW := Lib.hid (fun wide i => rdW_len (wide := wide) (l := fs.take i) (fun p hp => hM2 p (List.mem_of_mem_take hp)))
  have HM := Lib.hid hM
  have HN := Lib.hid hn
  have HT := Lib.hid ht
  have HRA := Lib.hid (refAll_rd fs)
  clear hM hM2 hn ht
  go_enter Tryz.func37, Tryz.ntmps37
  go_wp2_with fail
  go_loopw [5, 6] (fun s i wr => ∃ (W : Nat) (L : List Rc), i = .int .i64 W ∧ 12 ≤ W ∧ W ≤ 18 ∧ Hid (L = (List.range' 12 (W - 12)).flatMap fun wide => rdW wide fs) ∧ Hid (NBuf w wr 78 2 s L.length (frcs L))) (fun _ i _ => 18 - (intOf i).toNat)
  case atStart => exact ⟨12, [], rfl, Nat.le_refl _, by omega, rfl, NBuf.lit0 (Below.refl _ w) _ 2⟩
  case round =>
    obtain ⟨W, L, rfl, hW12, hW18, hL2, hs⟩ := hrel
    by_cases hgo : W ≤ 17
    · have hq18 : (W : Int) ≤ 17 := by omega
      have hLl : L.length ≤ 60000000 := by
        have h1 := HA.out (W - 12)
        rw [← hL2.out] at h1
        have h2 : 100000 * fs.length * (W - 12) ≤ 100000 * 100 * 6 := Nat.mul_le_mul (Nat.mul_le_mul_left _ hL) (by omega)
        omega
      go_wp2_with fail
      go_loopw [5, 18] (fun v i wr => ∃ (k : Nat) (K : List Rc), i = .int .i64 k ∧ k ≤ fs.length ∧ Hid (K = L ++ rdW W (fs.take k)) ∧ Hid (NBuf w wr 78 2 v K.length (frcs K))) (fun _ i _ => fs.length - (intOf i).toNat)
      case atStart => exact ⟨0, L, rfl, Nat.zero_le _, Lib.hid (by simp [rdW]), hs⟩
      case round =>
        obtain ⟨k, K, rfl, hk, hK, hs2⟩ := hrel
        by_cases hk1 : k < fs.length
        · obtain ⟨⟨n, f⟩, hki⟩ : ∃ r, fs[k]? = some r := ⟨_, List.getElem?_eq_getElem hk1⟩
          have hbl := hs2.out.below
          obtain ⟨b, o, rfl, hlt, hcell⟩ := (HN.out.below hbl).cells (by omega)
          obtain ⟨b2, o2, rfl, hlt2, hcell2⟩ := (HT.out.below hbl).cells (by omega)
          have c0 := hcell k (.string (bs n)) (scs_at (by rw [List.getElem?_map, hki]; rfl))
          have c1 := hcell2 k (.string (bs f.s)) (scs_at (by rw [List.getElem?_map, hki]; rfl))
          have hci : (0 : Int) ≤ (k : Int) := by omega
          have hci2 : (k : Int) < fs.length := by omega
          obtain ⟨m1, m2⟩ := HM.out _ (List.mem_of_getElem? hki)
          simp only at m1 m2
          have htk : fs.take (k + 1) = fs.take k ++ [(n, f)] := by rw [List.take_add_one, hki]; rfl
          have hKl : K.length ≤ 80000000 := by
            have h1 := HW.out W k
            have h2 : 100000 * (fs.take k).length ≤ 100000 * 100 := Nat.mul_le_mul_left _ (by rw [List.length_take]; omega)
            have h3 := congrArg List.length hK.out
            rw [List.length_append] at h3
            omega
          have hnum := Lib.hid (fun w => rNumber_any n w m1)
          clear hcell hcell2 hlt hlt2 hki
          by_cases hlen : n.length = W
          · have hlen2 : (n.length : Int) ≤ W := by omega
            have hlen3 : (W : Int) ≤ n.length := by omega
            by_cases hz : 0 < refNum n
            · have he : Hid (K ++ recs f.s = L ++ rdW W (fs.take (k + 1))) := by
                rw [htk, rdW_yes (p := (n, f)) ⟨hlen, hz⟩, hK.out, List.append_assoc]
                rfl
              obtain ⟨N, hN⟩ : ∃ N, N = refNum n := ⟨_, rfl⟩
              rw [← hN] at hz hnum
              have hz2 : (0 : Int) < (N : Int) := by omega
              have hrl := recs_len f.s
              have hall := Lib.hid (fun w => refAll_any f.s w (by omega))
              obtain ⟨S, hS⟩ : ∃ S, S = recs f.s := ⟨_, rfl⟩
              rw [← hS] at he hrl hall
              replace hlen := Lib.hid hlen
              clear htk hN hS hz hK
              go_wp2_with (first
                | (go_at_call 62; refine (hnum.out _).mono ?_; rintro e w1 ⟨rfl, rfl⟩)
                | (go_at_call 63; refine (hall.out _).mono ?_; rintro e w2 ⟨v2, rfl, hb2, hbl2⟩; have hn2 := Lib.hid (hs2.out.then_below hbl2); have hsrc := Lib.hid ((SlAt.of_buf hb2).src (P := Tryz.prog) (by omega) (t := 76) Tryz.underlying76 (frcs_one S)); obtain ⟨A5, c5, rfl, _⟩ := hb2.shape)
                | (at_builtin; refine wpList_append_el rfl (.tmp 40) (.tmp 41) 76 76 rfl rrec_ty rfl hn2.out.buf rfl hsrc.out (by simp only [maxLen]; omega) (by omega) ?_; intro v3 w3 hb3 ha3 hg3; have hn3 := Lib.hid (hn2.out.step hb3 ha3 hg3); clear hb3 ha3 hg3))
              go_roundw
              case rel => exact ⟨k + 1, K ++ S, by go_num, by omega, he, by rw [List.length_append, frcs_append]; exact hn3⟩
              case measure => simp [intOf]; omega
            · have he : Hid (K = L ++ rdW W (fs.take (k + 1))) := by rw [htk, rdW_no (p := (n, f)) (fun h => hz h.2)]; exact hK
              have hz0 : refNum n = 0 := by omega
              rw [hz0] at hnum
              replace hlen := Lib.hid hlen
              clear htk hz hz0 hK
              go_wp2_with (go_at_call 62; refine (hnum.out _).mono ?_; rintro e w1 ⟨rfl, rfl⟩)
              go_roundw
              case rel => exact ⟨k + 1, K, by go_num, by omega, he, hs2⟩
              case measure => simp [intOf]; omega
          · have he : Hid (K = L ++ rdW W (fs.take (k + 1))) := by rw [htk, rdW_no (p := (n, f)) (fun h => hlen h.1)]; exact hK
            have hlen2 : ¬ (n.length : Int) = (W : Int) := by omega
            clear htk hK
            go_wp2_with fail
            go_roundw
            case rel => exact ⟨k + 1, K, by go_num, by omega, he, hs2⟩
            case measure => simp [intOf]; omega
        · obtain rfl : k = fs.length := by omega
          rw [List.take_length] at hK
          have he : Hid (K = (List.range' 12 (W + 1 - 12)).flatMap fun wide => rdW wide fs) := by
            show K = _
            rw [hK.out, hL2.out, show W + 1 - 12 = (W - 12) + 1 by omega, List.range'_concat, List.flatMap_append, List.flatMap_cons, List.flatMap_nil, List.append_nil, show 12 + 1 * (W - 12) = W by omega]
          clear hK hk1
          go_wp2_with fail
          go_roundw
          case rel => exact ⟨W + 1, K, by go_num, by omega, by omega, he, hs2⟩
          case measure => simp [intOf]; omega
    · obtain rfl : W = 18 := by omega
      have hLl : L.length ≤ 1000000000 := by
        have h1 := HA.out 6
        rw [← hL2.out] at h1
        have h2 : 100000 * fs.length * 6 ≤ 100000 * 100 * 6 := Nat.mul_le_mul (Nat.mul_le_mul_left _ hL) (Nat.le_refl 6)
        omega
      have hLe := Lib.hid (hL2.out.trans HRA.out.symm)
      have hsince := Lib.hid (rSince_any _ L wr (SlAt.of_buf hs.out.buf) hLl)
      go_wp2_with (go_at_call 64; refine hsince.out.mono ?_; rintro e w1 ⟨v1, rfl, hn1⟩)
      go_ret
      have hfin := hn1.after hs.out.below
      rw [hLe.out] at hfin
      exact ⟨_, rfl, hfin⟩
end Go.Proofs.YtcopknopifbebaaGreatDoor

namespace Go.Bar.Wal
open Go.RowKit Go.Bar Go.Bar.Leb Go.Bar.Frm

structure Few (rs : List Rc) : Prop where
  dat : ∀ r ∈ rs, r.2.length ≤ 1048576
  knd : ∀ r ∈ rs, r.1 ≠ 255
theorem Few.nil : Few [] := ⟨fun r hr => (by cases hr), fun r hr => (by cases hr)⟩
theorem Few.append {a b : List Rc} (ha : Few a) (hb : Few b) : Few (a ++ b) := ⟨fun r hr => (List.mem_append.1 hr).elim (ha.dat r) (hb.dat r), fun r hr => (List.mem_append.1 hr).elim (ha.knd r) (hb.knd r)⟩
theorem Few.take {a : List Rc} (h : Few a) (j : Nat) : Few (a.take j) := ⟨fun r hr => h.dat r (List.mem_of_mem_take hr), fun r hr => h.knd r (List.mem_of_mem_take hr)⟩
theorem Few.drop {a : List Rc} (h : Few a) (j : Nat) : Few (a.drop j) := ⟨fun r hr => h.dat r (List.mem_of_mem_drop hr), fun r hr => h.knd r (List.mem_of_mem_drop hr)⟩
theorem Few.since {a : List Rc} (h : Few a) : Wal.since a = a := by
  have := since_append [] h.knd
  rw [List.nil_append] at this
  exact this

structure RecI (c : Nat) (l more : List Rc) (d : Ds) : Prop where
  ex : ∃ ns A t su i, LI d.fs ns A t su ∧ Tail (more.drop i) t ∧ ns.flatMap A = l ++ more.take i
  acc : Acc c d
theorem RecI.start {c : Nat} {l more : List Rc} {d : Ds} {g : Lg} {ns : List Nat} {A : Nat → List Rc} (h : LG d g ns A) (hf : ns.flatMap A = l) (hacc : Acc c d) (hm : Few more) (hfree : ((laid more).length : Int) ≤ d.free) (hseg : g.seg + 1 < 100000000) : RecI (c + 1) l more (wAppend d g more).2.1 := by
  have ha := append_any h hm.dat hfree hseg
  refine ⟨?_, hacc.wAppend g more⟩
  rcases ha.err with e | e
  · rcases ha.ok e with ⟨h1, h2, _⟩ | ⟨ns', A', _, hl, h2⟩
    · rw [h2]; exact ⟨ns, A, [], 0, 0, h.li, Tail.nil _, by rw [hf, List.take_zero, List.append_nil]⟩
    · exact ⟨ns', A', [], 0, more.length, hl.li, Tail.nil _, by rw [h2, hf, List.take_length]⟩
  · obtain ⟨_, ns', A', t, su, h1, h2, h3, _⟩ := ha.bad e
    exact ⟨ns', A', t, su, 0, h1, h2, by rw [h3, hf, List.take_zero, List.append_nil]⟩
theorem RecI.fuse {c : Nat} {l more : List Rc} {d : Ds} (h : RecI c l more d) {z : Fz} (hz : z.q.length ≤ 16) : RecI c l more { d with fz := z } := ⟨h.ex, h.acc.fuse hz⟩
theorem RecI.crash {c : Nat} {l more : List Rc} {d : Ds} (h : RecI c l more d) (cs : List Int) : RecI c l more (d.crash cs) := by
  obtain ⟨ns, A, t, su, i, h1, h2, h3⟩ := h.ex
  obtain ⟨k, _, h4⟩ := h1.crash cs
  exact ⟨⟨ns, A, _, _, i, h4, h2.take k, h3⟩, h.acc.crash cs⟩
theorem RecI.open_ {c : Nat} {l more : List Rc} {d : Ds} (h : RecI c l more d) (hm : Few more) (limit : Int) : RecI c l more (wOpen d limit).2.1 ∧ ((wOpen d limit).1 = 0 ∨ (wOpen d limit).1 = 8) := by
  obtain ⟨ns, A, t, su, i, h1, h2, h3⟩ := h.ex
  obtain ⟨⟨t', su', g1, g2⟩, g3, _⟩ := wOpen_any h1 h2 (hm.drop i).dat limit
  exact ⟨⟨⟨ns, A, t', su', i, g1, g2, h3⟩, h.acc.wOpen limit⟩, g3⟩
theorem RecI.end_ {c : Nat} {l more : List Rc} {d : Ds} (h : RecI c l more d) (hl : Few l) (hm : Few more) (hz : d.fz = Fz.none_) (limit : Int) : ∃ j d' g', wOpen d limit = (0, d', g', l ++ more.take j) := by
  obtain ⟨ns, A, t, su, i, h1, h2, h3⟩ := h.ex
  obtain ⟨j, d', g', A', e, _⟩ := wOpen_calm h1 h2 (hm.drop i).dat limit hz
  refine ⟨i + j, d', g', ?_⟩
  rw [e, h3, List.append_assoc, ← List.take_add, (hl.append (hm.take (i + j))).since]

structure PlayI (lim : Int) (c : Nat) (sure loose : List Rc) (other : Option (List Rc)) (d : Ds) (g : Lg) : Prop where
  lm : g.limit = lim
  acc : Acc c d
  rm : d.room = 1048576
  us : d.used ≤ 1000 * c
  sg : g.seg ≤ c + 1
  fs : Few sure
  fl : Few loose
  fo : ∀ o, other = some o → Few o
  ok : g.broken = false → ∃ ns A, LG d g ns A ∧ since (ns.flatMap A) = sure
  bad : g.broken = true → ∃ ns A t su b, LI d.fs ns A t su ∧ Tail b t ∧ (∀ n ∈ ns, n ≤ c + 1) ∧ ((since (ns.flatMap A) = sure ∧ b = loose) ∨ (∃ o, other = some o ∧ since (ns.flatMap A) = o ∧ b = []))
def Found (got sure loose : List Rc) (other : Option (List Rc)) : Prop := (∃ j, got = sure ++ loose.take j) ∨ other = some got
section
variable {lim : Int} {c : Nat} {sure loose : List Rc} {other : Option (List Rc)} {d : Ds} {g : Lg} {rs : List Rc}
theorem PlayI.mono (h : PlayI lim c sure loose other d g) : PlayI lim (c + 1) sure loose other d g :=
  ⟨h.lm, h.acc.mono (Nat.le_succ _), h.rm, by have := h.us; omega, by have := h.sg; omega, h.fs, h.fl, h.fo, h.ok, fun hb => by
    obtain ⟨ns, A, t, su, b, h1, h2, h3, h4⟩ := h.bad hb
    exact ⟨ns, A, t, su, b, h1, h2, fun n hn => Nat.le_succ_of_le (h3 n hn), h4⟩⟩
theorem PlayI.app (h : PlayI lim c sure loose other d g) (hb : g.broken = false) (hr : Few rs) (hl : (laid rs).length ≤ 1000) (hc : c < 100) :
    (∃ d' g', wAppend d g rs = (0, d', g') ∧ PlayI lim (c + 1) (sure ++ rs) loose other d' g') ∨ (∃ d' g', wAppend d g rs = (8, d', g') ∧ PlayI lim (c + 1) sure rs other d' g') := by
  obtain ⟨ns, A, hg, hs⟩ := h.ok hb
  have hus := h.us
  have hrm := h.rm
  have hsg := h.sg
  have ha := append_any hg hr.dat (by unfold Ds.free; omega) (by omega)
  have hacc := h.acc.wAppend g rs
  have hu := ha.used
  have hroom := ha.room
  have hlim := ha.lim
  have hseg := ha.seg
  have herr := ha.err
  have hok := ha.ok
  have hbad := ha.bad
  obtain ⟨e, d', g', he⟩ : ∃ e d' g', wAppend d g rs = (e, d', g') := ⟨_, _, _, rfl⟩
  rw [he] at hacc hu hroom hlim hseg herr hok hbad
  simp only at hacc hu hroom hlim hseg herr hok hbad
  rcases herr with rfl | rfl
  · left
    rcases hok rfl with ⟨rfl, rfl, rfl⟩ | ⟨ns', A', _, hl', h2⟩
    · refine ⟨_, _, he, ?_⟩
      rw [List.append_nil]
      exact h.mono
    · refine ⟨d', g', he, hlim.trans h.lm, hacc, hroom.trans hrm, by omega, by omega, h.fs.append hr, h.fl, h.fo, fun _ => ⟨ns', A', hl', ?_⟩, fun hbb => by rw [hl'.nb] at hbb; cases hbb⟩
      rw [h2, since_append _ hr.knd, hs]
  · right
    obtain ⟨h1, ns', A', t, su, h2, h3, h4, h5⟩ := hbad rfl
    refine ⟨d', g', he, hlim.trans h.lm, hacc, hroom.trans hrm, by omega, by omega, h.fs, hr, h.fo, fun hbb => (by rw [h1] at hbb; cases hbb), fun _ => ⟨ns', A', t, su, rs, h2, h3, fun n hn => by have := h5 n hn; omega, .inl ⟨by rw [h4, hs], rfl⟩⟩⟩
theorem PlayI.fuse (h : PlayI lim c sure loose other d g) {z : Fz} (hz : z.q.length ≤ 16) : PlayI lim c sure loose other { d with fz := z } g :=
  ⟨h.lm, h.acc.fuse hz, h.rm, h.us, h.sg, h.fs, h.fl, h.fo, fun hb => by
    obtain ⟨ns, A, h1, h2⟩ := h.ok hb
    exact ⟨ns, A, ⟨h1.li, h1.nb, h1.at_, h1.lo⟩, h2⟩, h.bad⟩
theorem PlayI.files (h : PlayI lim c sure loose other d g) : ∃ ns A t su b, LI d.fs ns A t su ∧ Tail b t ∧ (∀ n ∈ ns, n ≤ c + 1) ∧ ((since (ns.flatMap A) = sure ∧ b = loose) ∨ (∃ o, other = some o ∧ since (ns.flatMap A) = o ∧ b = [])) := by
  cases hb : g.broken with
  | true => exact h.bad hb
  | false =>
    obtain ⟨ns, A, h1, h2⟩ := h.ok hb
    refine ⟨ns, A, [], 0, loose, h1.li, Tail.nil _, fun n hn => ?_, .inl ⟨h2, rfl⟩⟩
    have hsg := h.sg
    rcases h1.at_ with ⟨h3, _⟩ | ⟨h3, _⟩
    · have := ris_lt_last h1.li.ris h3 n hn; omega
    · rw [h3] at hn; cases hn
theorem PlayI.open_ (h : PlayI lim c sure loose other d g) {d2 : Ds} (hd : (∃ cs, d2 = d.crash cs) ∨ d2 = { d with fz := Fz.none_ }) {limit : Int} (hlim : lim = max limit 1) :
    ∃ got d' g', wOpen d2 limit = (0, d', g', got) ∧ Found got sure loose other ∧ PlayI lim (c + 1) got [] none d' g' := by
  obtain ⟨ns, A, t, su, b, h1, h2, h3, h4⟩ := h.files
  have hfb : Few b := by
    rcases h4 with ⟨_, rfl⟩ | ⟨_, _, _, rfl⟩
    · exact h.fl
    · exact Few.nil
  have hd2 : ∃ t' su', LI d2.fs ns A t' su' ∧ Tail b t' ∧ d2.fz = Fz.none_ ∧ d2.room = d.room ∧ Acc c d2 ∧ d2.used ≤ d.used := by
    rcases hd with ⟨cs, rfl⟩ | rfl
    · obtain ⟨k, _, hk⟩ := h1.crash cs
      exact ⟨_, _, hk, h2.take k, rfl, rfl, h.acc.crash cs, by show d.used - (lost d.fs cs : Nat) ≤ d.used; omega⟩
    · exact ⟨t, su, h1, h2, rfl, rfl, h.acc.fuse (Nat.zero_le _), Int.le_refl _⟩
  obtain ⟨t', su', g1, g2, g3, g4, g5, g6⟩ := hd2
  obtain ⟨j, d', g', A', e, e1, e2, e3, e4, e5, e6, e7⟩ := wOpen_calm g1 g2 hfb.dat limit g3
  have hus := h.us
  have hacc := g5.wOpen limit
  rw [e] at hacc
  have hs : since (ns.flatMap A ++ b.take j) = since (ns.flatMap A) ++ b.take j := since_append _ (hfb.take j).knd
  have hfew : Few (since (ns.flatMap A ++ b.take j)) := by
    rw [hs]
    rcases h4 with ⟨h5, _⟩ | ⟨o, h5, h6, _⟩
    · rw [h5]; exact h.fs.append (hfb.take j)
    · rw [h6]; exact (h.fo o h5).append (hfb.take j)
  refine ⟨_, d', g', e, ?_, e1.trans hlim.symm, hacc.mono (Nat.le_succ _), e5.trans (g4.trans h.rm), by omega, ?_, hfew, Few.nil, fun o ho => (by cases ho), fun _ => ⟨ns, A', e2, by rw [e3]⟩, fun hb => by rw [e2.nb] at hb; cases hb⟩
  · rw [hs]
    rcases h4 with ⟨h5, rfl⟩ | ⟨o, h5, h6, rfl⟩
    · exact .inl ⟨j, by rw [h5]⟩
    · right
      rw [h6, List.take_nil, List.append_nil]; exact h5
  · rcases e2.at_ with ⟨h5, _⟩ | ⟨h5, _⟩
    · have := h3 _ (last_mem' h5); omega
    · have := e7 h5; omega
end
end Go.Bar.Wal

namespace Go.Bar.Wal
open Go.RowKit Go.Bar Go.Bar.Leb Go.Bar.Frm

section
variable {d : Ds} {x : Nm}
theorem app_fnd {n : Nm} (s : List UInt8) (h : x ≠ n) : fnd (d.append n s).2.fs x = fnd d.fs x := by
  unfold Ds.append
  split
  · rfl
  · split
    · rfl
    · exact do_fs (P := fun fs => fnd fs x = fnd d.fs x) rfl (by simp only; rw [fnd_put, if_neg h])
theorem sync_fnd {n : Nm} (h : x ≠ n) : fnd (d.sync n).2.fs x = fnd d.fs x := by
  unfold Ds.sync
  split
  · rfl
  · exact do_fs (P := fun fs => fnd fs x = fnd d.fs x) rfl (by simp only; rw [fnd_put, if_neg h])
theorem ne_seg (hx : pre.isPrefixOf x = false) (n : Nat) : x ≠ segN n := fun e => by
  rw [e, segN_pre] at hx; cases hx
theorem wAppend_fnd (hx : pre.isPrefixOf x = false) (g : Lg) (rs : List Rc) : fnd (wAppend d g rs).2.1.fs x = fnd d.fs x := by
  unfold wAppend
  split
  · rfl
  · split
    · rfl
    · split
      · rfl
      · simp only
        split
        · split
          · exact app_fnd _ (ne_seg hx _)
          · exact (sync_fnd (ne_seg hx _)).trans (app_fnd _ (ne_seg hx _))
        · split
          · exact app_fnd _ (ne_seg hx _)
          · exact (sync_fnd (ne_seg hx _)).trans (app_fnd _ (ne_seg hx _))
end

structure RstI (c U : Nat) (all : List Rc) (d : Ds) (g : Lg) : Prop where
  ex : ∃ ns A, LG d g ns A ∧ ns.flatMap A = all
  z : d.fz = Fz.none_
  acc : Acc c d
  rm : d.room = 1048576
  us : d.used ≤ U
  sg : g.seg ≤ c + 1
  oth : ∀ x, pre.isPrefixOf x = false → fnd d.fs x = none
theorem RstI.start (limit : Int) : RstI 0 0 [] (Ds.new 1048576) ⟨max limit 1, 1, 0, false⟩ :=
  ⟨⟨[], _, (open_new 1048576 limit).2, rfl⟩, rfl, Acc.new _, rfl, Int.le_refl _, Nat.le_refl _, fun _ _ => rfl⟩
theorem RstI.app {c U : Nat} {all rs : List Rc} {d : Ds} {g : Lg} (h : RstI c U all d g) (hr : Few rs) (hl : (laid rs).length ≤ 1000) (hU : U ≤ 100000) (hc : c < 100) : ∃ d' g', wAppend d g rs = (0, d', g') ∧ RstI (c + 1) (U + 1000) (all ++ rs) d' g' := by
  obtain ⟨⟨ns, A, hg, hf⟩, hz, hacc, hrm, hus, hsg, hoth⟩ := h
  have ha := append_any hg hr.dat (by unfold Ds.free; omega) (by omega)
  have hacc' := hacc.wAppend g rs
  have ho := fun x hx => (wAppend_fnd (d := d) (x := x) hx g rs).trans (hoth x hx)
  have hcalm := ha.calm hz
  have hu := ha.used
  have hroom := ha.room
  have hseg := ha.seg
  have hok := ha.ok hcalm.1
  obtain ⟨e, d', g', he⟩ : ∃ e d' g', wAppend d g rs = (e, d', g') := ⟨_, _, _, rfl⟩
  rw [he] at hacc' hu hroom hseg hok hcalm ho
  simp only at hacc' hu hroom hseg hok hcalm ho
  obtain ⟨rfl, hz'⟩ := hcalm
  refine ⟨d', g', he, ?_, hz', hacc', hroom.trans hrm, by omega, by omega, ho⟩
  rcases hok with ⟨rfl, rfl, rfl⟩ | ⟨ns', A', _, hl', h2⟩
  · exact ⟨ns, A, hg, by rw [hf, List.append_nil]⟩
  · exact ⟨ns', A', hl', by rw [h2, hf]⟩
theorem RstI.open_ {c U : Nat} {all : List Rc} {d : Ds} {g : Lg} (h : RstI c U all d g) (limit : Int) : ∃ d' g', wOpen d limit = (0, d', g', since all) ∧ d'.fz = Fz.none_ ∧ Acc c d' ∧ d'.room = 1048576 ∧ d'.used ≤ U := by
  obtain ⟨⟨ns, A, hg, hf⟩, hz, hacc, hrm, hus, _, _⟩ := h
  obtain ⟨j, d', g', A', e, _, _, _, e4, e5, e6, _⟩ := wOpen_calm hg.li (Tail.nil []) (fun r hr => by cases hr) limit hz
  have ha := hacc.wOpen limit
  rw [e] at ha
  rw [List.take_nil, List.append_nil, hf] at e
  exact ⟨d', g', e, e4, ha, e5.trans hrm, by omega⟩
end Go.Bar.Wal

namespace Go.Bar.Wal
open Go.RowKit Go.Bar Go.Bar.Leb Go.Bar.Frm
theorem and127 (k : UInt8) : bits .and .u8 (k.toNat : Int) 127 = ((k &&& 127).toNat : Int) := by
  have h : ∀ n : Fin 256, bits .and .u8 ((n.val : Nat) : Int) 127 = ((UInt8.ofNat n.val &&& 127).toNat : Int) := by decide +kernel
  have h2 := h ⟨k.toNat, k.toNat_lt⟩
  simpa using h2
theorem and127_ne (k : UInt8) : k &&& 127 ≠ 255 := by
  have h : ∀ n : Fin 256, UInt8.ofNat n.val &&& 127 ≠ 255 := by decide +kernel
  have h2 := h ⟨k.toNat, k.toNat_lt⟩
  simpa using h2
end Go.Bar.Wal
namespace Go.Proofs.YtcopknopifbebaaGreatDoor
open Go.RowKit Go.Bar Go.Bar.Wal Go.Bar.Leb Go.Bar.Frm Go.Conc
attribute [local go_sem] Oper.semAt_some

def sameR (a b : List Rc) : Int := if a = b then 0 else -1
set_option maxHeartbeats 1000000 in
set_option maxRecDepth 10000 in
theorem same11_any (v u : Value) (rs qs : List Rc) (w : World) (h : RecsAt w v rs) (h' : RecsAt w u qs) : Calls Tryz.prog 15 #[v, u] w (Quiet w (.int .i64 (sameR rs qs))) := by
  obtain ⟨A, c, rfl, hlc, hcm⟩ := h.shape
  obtain ⟨A2, c2, rfl, hlc2, hcm2⟩ := h'.shape
  unfold maxLen at hcm hcm2
  by_cases hl : rs.length = qs.length
  · have hres : ∀ k, k ≤ qs.length → rs.take k = qs.take k → (∀ x y, rs[k]? = some x → qs[k]? = some y → x ≠ y → sameR rs qs = -1) := fun k hk he x y hx hy hxy => by
      unfold sameR
      rw [if_neg]
      intro e
      rw [e, hy] at hx
      injection hx with hx
      exact hxy hx.symm
    have hall : rs.take qs.length = qs.take qs.length → sameR rs qs = 0 := fun he => by
      rw [← hl, List.take_length, hl, List.take_length] at he
      unfold sameR
      rw [if_pos he]
    obtain ⟨R, hR⟩ : ∃ R, R = sameR rs qs := ⟨_, rfl⟩
    rw [← hR]
    rw [← hR] at hall
    simp only [← hR] at hres
    replace hall := Lib.hid hall
    replace hres := Lib.hid hres
    clear hR
    go_enter Tryz.func15, Tryz.ntmps15
    go_wp2_with fail
    go_loopw [13] (fun i wr => ∃ k n : Nat, k ≤ qs.length ∧ i = .int .i64 k ∧ wr = w.drewN n ∧ Hid (rs.take k = qs.take k)) (fun i _ => qs.length - (intOf i).toNat)
    case atStart => exact ⟨0, 0, Nat.zero_le _, rfl, rfl, rfl⟩
    case round =>
      obtain ⟨k, n, hk, rfl, rfl, hpre⟩ := hrel
      by_cases hgo : k < qs.length
      · obtain ⟨⟨kd, d⟩, hki⟩ : ∃ r, rs[k]? = some r := ⟨_, List.getElem?_eq_getElem (by omega)⟩
        obtain ⟨⟨kd2, d2⟩, hki2⟩ : ∃ r, qs[k]? = some r := ⟨_, List.getElem?_eq_getElem hgo⟩
        obtain ⟨b, o, rfl, hlt, c0, c1⟩ := h.at_ hki
        obtain ⟨b2, o2, rfl, hlt2, c2, c3⟩ := h'.at_ hki2
        have hci : (0 : Int) ≤ (k : Int) := by omega
        have hci2 : (k : Int) < rs.length := by omega
        have hci3 : (k : Int) < qs.length := by omega
        by_cases heq : kd = kd2 ∧ d = d2
        · obtain ⟨rfl, rfl⟩ := heq
          have hst : Hid (rs.take (k + 1) = qs.take (k + 1)) := by
            have := hpre.out
            show rs.take (k + 1) = qs.take (k + 1)
            rw [List.take_add_one, List.take_add_one, hki, hki2, this]
          clear hki hki2
          go_wp2_with fail
          go_quiet (fail)
          go_wp2_with fail
          go_roundw
          case rel => exact ⟨k + 1, n + nq, by omega, by go_num, rfl, hst⟩
          case measure => simp [intOf]; omega
        · have hst := Lib.hid (hres.out k hk hpre.out _ _ hki hki2 (fun e => heq (by injection e with e1 e2; exact ⟨e1, e2⟩)))
          clear hki hki2
          by_cases hkd : kd = kd2
          · subst hkd
            have hd1 : ¬ d = d2 := fun e => heq ⟨rfl, e⟩
            have hd2 : (d == d2) = false := by simpa using hd1
            clear heq
            go_wp2_with fail
            go_quiet (fail)
            go_wp2_with fail
            go_ret
            exact ⟨by rw [hst.out]; rfl, n + nq, by simp⟩
          · have hk1 : ¬ kd.toNat = kd2.toNat := fun e => hkd (UInt8.toNat_inj.1 e)
            have hk2 : ¬ (kd.toNat : Int) = kd2.toNat := by omega
            clear heq
            go_wp2_with fail
            go_quiet (fail)
            go_wp2_with fail
            go_ret
            exact ⟨by rw [hst.out]; rfl, n + nq, by simp⟩
      · have hke : k = qs.length := by omega
        subst hke
        have h0 := Lib.hid (hall.out hpre.out)
        clear hgo
        go_wp2_with fail
        go_ret
        exact ⟨by rw [h0.out]; rfl, n, rfl⟩
  · have hR : sameR rs qs = -1 := by unfold sameR; rw [if_neg (fun e => hl (by rw [e]))]
    rw [hR]
    clear hR
    have hl2 : ¬ (rs.length : Int) = qs.length := by omega
    go_enter Tryz.func15, Tryz.ntmps15
    go_wp2_with fail
    go_ret
    exact ⟨rfl, 0, rfl⟩
end Go.Proofs.YtcopknopifbebaaGreatDoor

namespace Go.Bar.Wal
open Go.RowKit Go.Bar Go.Bar.Leb Go.Bar.Frm
def awAB : List Rc := [(1, [97]), (1, [98])]
def awC : List Rc := [(1, [99])]
def awG (n : Nat) (b : Bool) : Lg := ⟨100, 1, n, b⟩
def awD (s : List UInt8) (sure : Nat) (u : Int) (z : Fz) : Ds := ⟨[(segN 1, ⟨s, sure⟩)], 1000, u, z⟩
theorem awL : (laid awAB).length = 14 ∧ (laid awC).length = 7 := by decide +kernel
theorem aw_seven : segN 7 = [119, 97, 108, 45, 48, 48, 48, 48, 48, 48, 48, 55] := by decide +kernel
theorem aw1 : wAppend (Ds.new 1000) (awG 0 false) awAB = (0, awD (laid awAB) 14 14 Fz.none_, awG 14 false) := by
  kernel_rfl
theorem aw2 : (awD (laid awAB) 14 14 Fz.none_).fz.arm 1 false = (0, ⟨[(1, false)], none⟩) := by kernel_rfl
theorem aw3 : wAppend (awD (laid awAB) 14 14 ⟨[(1, false)], none⟩) (awG 14 false) awC = (8, awD (laid awAB ++ laid awC) 14 21 Fz.none_, awG 21 true) := by
  kernel_rfl
theorem aw4 : wAppend (awD (laid awAB ++ laid awC) 14 21 Fz.none_) (awG 21 true) awC = (9, awD (laid awAB ++ laid awC) 14 21 Fz.none_, awG 21 true) := by
  kernel_rfl
theorem aw5 : (awD (laid awAB ++ laid awC) 14 21 Fz.none_).crash [] = awD (laid awAB) 14 14 Fz.none_ := by
  kernel_rfl
theorem aw6 : ∃ d' g', wOpen (awD (laid awAB) 14 14 Fz.none_) 100 = (0, d', g', awAB) := by
  have hs : Srt (awD (laid awAB) 14 14 Fz.none_).fs := List.pairwise_singleton _ _
  obtain ⟨d', g, h, _⟩ := opens hs rfl 100 (fun p hp => by
    have : p = (segN 1, ⟨laid awAB, 14⟩) := by simpa [awD] using hp
    rw [this]
    show 14 ≤ (laid awAB).length
    rw [awL.1]; decide)
  refine ⟨d', g, ?_⟩
  rw [h]
  have e : since (refAll (awD (laid awAB) 14 14 Fz.none_).fs) = awAB := by
    decide +kernel
  rw [e]
theorem aw_acc : Acc 1 (awD (laid awAB) 14 14 Fz.none_) := by
  have := (Acc.new 1000).wAppend (awG 0 false) awAB
  rw [aw1] at this
  exact this
theorem aw_acc3 : Acc 2 (awD (laid awAB ++ laid awC) 14 21 Fz.none_) := by
  have h1 := aw_acc.fuse (z := ⟨[(1, false)], none⟩) (by decide)
  have := Acc.wAppend (d := awD (laid awAB) 14 14 ⟨[(1, false)], none⟩) h1 (awG 14 false) awC
  rw [aw3] at this
  exact this
end Go.Bar.Wal
