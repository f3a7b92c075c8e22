/-
 Layer 9: the walk of the reference's Check.
-/
import Derived.Test.YtgabmfibfikdbaaGreatDoorZMetR
import Derived.Test.YtgabmfibfikdbaaGreatDoorZBokF

set_option maxHeartbeats 32000000
set_option maxRecDepth 10000
namespace Go.Proofs.YtgabmfibfikdbaaGreatDoor
open Go.RowKit Go.Bar Go.Bar.Leb Go.Bar.Frm Go.Bar.Idt Go.Bar.Met

theorem rid_any (l : List UInt8) (w : World) (hl : l.length <= 1000000000000) :
  Calls Tryz.prog 98 #[.string (bs l)] w (Quiet w (.bool (idOk l))) := by
 have hp := refParse_any l
 obtain ⟨u, hu⟩ : ∃ u, parse l = u := ⟨_, rfl⟩
 rw [hu] at hp
 rcases u with _ | ⟨t, s⟩
 ·rw [idOk_none hu]
  simp only [refParseV] at hp
  have HP := Lib.hid hp
  clear hp hu
  go_enter Tryz.func98, Tryz.ntmps98
  go_wp2_with fail
  refine (HP.out _ hl).mono ?_
  rintro e w' ⟨rfl, n, rfl⟩
  go_wp2_with fail
  go_ret
  exact ⟨rfl, n, rfl⟩
 ·rw [idOk_some hu]
  simp only [refParseV] at hp
  have HP := Lib.hid hp
  clear hp hu
  go_enter Tryz.func98, Tryz.ntmps98
  go_wp2_with fail
  refine (HP.out _ hl).mono ?_
  rintro e w' ⟨rfl, n, rfl⟩
  go_wp2_with fail
  go_ret
  exact ⟨rfl, n, rfl⟩

theorem less_total : ∀ a b : List UInt8, Op.bytesLess a b = !(Op.bytesLess b a || b == a)
 | [], [] => by simp [Op.bytesLess]
 | [], _ :: _ => by simp [Op.bytesLess]
 | _ :: _, [] => by simp [Op.bytesLess]
 | x :: a, y :: b => by
  have ih := less_total a b
  simp only [Op.bytesLess]
  rcases Nat.lt_trichotomy x.toNat y.toNat with h | h | h
  ·have h1 : x < y := UInt8.lt_iff_toNat_lt.2 h
   have h2 : ¬ y < x := fun h' => by have := UInt8.lt_iff_toNat_lt.1 h'; omega
   have h3 : ¬ y = x := fun h' => by subst h'; omega
   simp [h1, h2, h3]
  ·have h0 : x = y := UInt8.toNat_inj.1 h
   subst h0
   have h2 : ¬ x < x := fun h' => by have := UInt8.lt_iff_toNat_lt.1 h'; omega
   simp [h2, ih]
  ·have h1 : y < x := UInt8.lt_iff_toNat_lt.2 h
   have h2 : ¬ x < y := fun h' => by have := UInt8.lt_iff_toNat_lt.1 h'; omega
   have h3 : ¬ x = y := fun h' => by subst h'; omega
   simp [h1, h2, h3]

theorem rcheck_bad (m : Mt) (fv sv : Value) (w : World) (hf : FlsAt w fv m.fs) (hs : SrcAt w sv m.ss) (hid : m.id.length <= 1000000000000) (h : ¬ (sane m /\ m.fs.length = 2)) :
  Calls Tryz.prog 67 #[.agg #[.string (bs m.id), .int .i64 m.mn, .int .i64 m.mx, .int .i64 m.lv, .int .i64 m.sr, .int .i64 m.sm, fv, sv]] w (RetBelow w (.bool false)) := by
 obtain ⟨A, c, rfl, hlc, hcm⟩ := hf.shape
 obtain ⟨A2, c2, rfl, hlc2, hcm2⟩ := hs.shape
 have hi := rid_any m.id
 have hc := bad_cases (m := m) (fun h' => h ⟨h'.1, h'.2.1⟩)
 have hfs : sane m -> m.fs.length ≠ 2 := fun h1 h2 => h ⟨h1, h2⟩
 unfold sane at hfs
 obtain ⟨id, mn, mx, lv, sr, sm, fs, ss⟩ := m
 simp only at *
 clear h
 rcases hc with h0 | ⟨h0, h1⟩ | ⟨h0, h1, h2⟩ | ⟨h0, h1, h2, h3⟩ | ⟨h0, h1, h2, h3, h4⟩ | ⟨h0, h1, h2, h3, h4, h5⟩ | ⟨h0, h1, h2, h3, h4, h5, h6⟩ | ⟨h0, h1, h2, h3, h4, h5, h6, h7⟩ | ⟨h0, h1, h2, h3, h4, h5, h6, h7, h8⟩ | ⟨h0, h1, h2, h3, h4, h5, h6, h7, h8, h9⟩ | ⟨h0, h1, h2, h3, h4, h5, h6, h7, h8, h9, h10⟩
 case inr.inr.inr.inr.inr.inr.inr.inr.inr.inl =>
  rw [h0] at hi
  have HI := Lib.hid hi
  have hb : ((fs.length : Int) != 2) = true := by rw [bne_iff_ne]; omega
  clear hi h0 h9 hfs
  go_enter Tryz.func67, Tryz.ntmps67
  go_wp2_with fail
  refine (HI.out _ hid).mono ?_
  rintro e w' ⟨rfl, n, rfl⟩
  go_wp2_with fail
  go_ret
  exact ⟨rfl, below_drewN (mbelow_alloc1 _ _) n⟩
 case inr.inr.inr.inr.inr.inr.inr.inr.inr.inr => exact absurd h9 (hfs ⟨h0, h1, h2, h3, h4, h5, h6, h7, h8⟩)
 all_goals
  rw [h0] at hi
  have HI := Lib.hid hi
  clear hi h0 hfs
  go_enter Tryz.func67, Tryz.ntmps67
  go_wp2_with fail
  refine (HI.out _ hid).mono ?_
  rintro e w' ⟨rfl, n, rfl⟩
  go_wp2_with fail
  all_goals
   go_ret
   exact ⟨rfl, below_drewN (mbelow_alloc1 _ _) n⟩

theorem chkB_file {m : Mt} {k : Nat} (hk : k < 2) (h : ¬ fileOk m k) : chkB m = false := chkB_no (fun h' => h (h'.2.2.2.1 k hk))
theorem chkB_src {m : Mt} {k : Nat} (hk : k < m.ss.length) (h : ¬ good m k) : chkB m = false := chkB_no (fun h' => h (h'.2.2.2.2 k hk))

theorem rcheck_names (m : Mt) (fv sv : Value) (w : World) (hf : FlsAt w fv m.fs) (hs : SrcAt w sv m.ss) (hid : m.id.length <= 1000000000000) (hsane : sane m) (f0 f1 : Fl) (hfs : m.fs = [f0, f1])
  (hbad : f0.name ≠ [99, 104, 117, 110, 107, 115] \/ (f0.name = [99, 104, 117, 110, 107, 115] /\ f1.name ≠ [105, 110, 100, 101, 120]) \/ (f0.name = [99, 104, 117, 110, 107, 115] /\ f1.name = [105, 110, 100, 101, 120] /\ 50 < m.ss.length)) :
  Calls Tryz.prog 67 #[.agg #[.string (bs m.id), .int .i64 m.mn, .int .i64 m.mx, .int .i64 m.lv, .int .i64 m.sr, .int .i64 m.sm, fv, sv]] w (RetBelow w (.bool false)) := by
 obtain ⟨A, c, rfl, hlc, hcm⟩ := hf.shape
 obtain ⟨A2, c2, rfl, hlc2, hcm2⟩ := hs.shape
 have hi := rid_any m.id
 obtain ⟨hi0, h1, h2, h3, h4, h5, h6, h7, h8⟩ := hsane
 rw [hi0] at hi
 have HI := Lib.hid hi
 have hf1 := hf.below (mbelow_alloc1 w (.cells #[.string (bs m.id), .int .i64 m.mn, .int .i64 m.mx, .int .i64 m.lv, .int .i64 m.sr, .int .i64 m.sm, .slice A m.fs.length c, .slice A2 m.ss.length c2] 70))
 obtain ⟨b, o, rfl, hbb, a0, a1, a2⟩ := hf1.at_ (i := 0) (f := f0) (by rw [hfs]; rfl)
 obtain ⟨b', o', he, _, b0, b1, b2⟩ := hf1.at_ (i := 1) (f := f1) (by rw [hfs]; rfl)
 injection he with he
 injection he with he1 he2 _
 subst he1; subst he2
 have hfl : m.fs.length = 2 := by rw [hfs]; rfl
 rw [hfl] at a0 b0 ⊢
 clear hi hi0 hf hf1 hfs a1 a2 b1 b2 hbb
 obtain ⟨n0, s0, u0⟩ := f0
 obtain ⟨n1, s1, u1⟩ := f1
 simp only at a0 b0 hbad
 have a0 : (w.alloc (.cells #[.string (bs m.id), .int .i64 m.mn, .int .i64 m.mx, .int .i64 m.lv, .int .i64 m.sr, .int .i64 m.sm, .slice (some ⟨b, o, none⟩) 2 c, .slice A2 m.ss.length c2] 70)).cell? ⟨b, o, none⟩ = some (.string (bs n0)) := a0
 have b0 : (w.alloc (.cells #[.string (bs m.id), .int .i64 m.mn, .int .i64 m.mx, .int .i64 m.lv, .int .i64 m.sr, .int .i64 m.sm, .slice (some ⟨b, o, none⟩) 2 c, .slice A2 m.ss.length c2] 70)).cell? ⟨b, o + 3, none⟩ = some (.string (bs n1)) := b0
 rw [hfl] at hlc
 clear hfl
 rcases hbad with g | ⟨rfl, g⟩ | ⟨rfl, rfl, g⟩
 ·have hb1 : (n0 == [99, 104, 117, 110, 107, 115]) = false := by rw [beq_eq_false_iff_ne]; exact g
  have hb2 : (n0 != [99, 104, 117, 110, 107, 115]) = true := by rw [bne_iff_ne]; exact g
  clear g
  go_enter Tryz.func67, Tryz.ntmps67
  go_wp2_with fail
  refine (HI.out _ hid).mono ?_
  rintro e w' ⟨rfl, n, rfl⟩
  go_wp2_with fail
  go_ret
  exact ⟨rfl, below_drewN (mbelow_alloc1 _ _) n⟩
 ·have hb1 : (n1 == [105, 110, 100, 101, 120]) = false := by rw [beq_eq_false_iff_ne]; exact g
  have hb2 : (n1 != [105, 110, 100, 101, 120]) = true := by rw [bne_iff_ne]; exact g
  clear g
  go_enter Tryz.func67, Tryz.ntmps67
  go_wp2_with fail
  refine (HI.out _ hid).mono ?_
  rintro e w' ⟨rfl, n, rfl⟩
  go_wp2_with fail
  go_ret
  exact ⟨rfl, below_drewN (mbelow_alloc1 _ _) n⟩
 ·go_enter Tryz.func67, Tryz.ntmps67
  go_wp2_with fail
  refine (HI.out _ hid).mono ?_
  rintro e w' ⟨rfl, n, rfl⟩
  go_wp2_with fail
  go_ret
  exact ⟨rfl, below_drewN (mbelow_alloc1 _ _) n⟩

theorem rcheck_good (m : Mt) (fv sv : Value) (w : World) (hf : FlsAt w fv m.fs) (hs : SrcAt w sv m.ss) (hid : m.id.length <= 1000000000000) (hsl : ∀ s ∈ m.ss, s.length <= 1000000000000) (hsane : sane m) (s0 s1 : Int) (u0 u1 : Nat)
  (hfs : m.fs = [⟨[99, 104, 117, 110, 107, 115], s0, u0⟩, ⟨[105, 110, 100, 101, 120], s1, u1⟩]) (h50 : m.ss.length <= 50) :
  Calls Tryz.prog 67 #[.agg #[.string (bs m.id), .int .i64 m.mn, .int .i64 m.mx, .int .i64 m.lv, .int .i64 m.sr, .int .i64 m.sm, fv, sv]] w (RetBelow w (.bool (chkB m))) := by
 obtain ⟨A, c, rfl, hlc, hcm⟩ := hf.shape
 obtain ⟨A2, c2, rfl, hlc2, hcm2⟩ := hs.shape
 obtain ⟨Z, hZ⟩ : ∃ Z, Z = chkB m := ⟨_, rfl⟩
 rw [<- hZ]
 have HF := Lib.hid (fun k (hk : k < 2) (h : ¬ fileOk m k) => hZ.trans (chkB_file hk h))
 have HS := Lib.hid (fun k (hk : k < m.ss.length) (h : ¬ good m k) => hZ.trans (chkB_src hk h))
 have HY := Lib.hid (fun (h : Ok m) => hZ.trans (chkB_ok h))
 have HFD0 := Lib.hid (show fileOk m 0 ↔ (0 <= s0 /\ s0 <= 1048576) by unfold fileOk; rw [hfs]; simp [chunksN])
 have HFD1 := Lib.hid (show fileOk m 1 ↔ (0 <= s1 /\ s1 <= 1048576) by unfold fileOk; rw [hfs]; simp [indexN])
 have HSN := Lib.hid hsane
 clear hZ
 have hi := rid_any m.id
 obtain ⟨hi0, h1, h2, h3, h4, h5, h6, h7, h8⟩ := hsane
 rw [hi0] at hi
 have HI := Lib.hid hi
 have hf1 := hf.below (mbelow_alloc1 w (.cells #[.string (bs m.id), .int .i64 m.mn, .int .i64 m.mx, .int .i64 m.lv, .int .i64 m.sr, .int .i64 m.sm, .slice A m.fs.length c, .slice A2 m.ss.length c2] 70))
 obtain ⟨b, o, rfl, hbb, a0, a1, a2⟩ := hf1.at_ (i := 0) (f := ⟨[99, 104, 117, 110, 107, 115], s0, u0⟩) (by rw [hfs]; rfl)
 obtain ⟨b', o', he, _, b0, b1, b2⟩ := hf1.at_ (i := 1) (f := ⟨[105, 110, 100, 101, 120], s1, u1⟩) (by rw [hfs]; rfl)
 injection he with he
 injection he with he1 he2 _
 subst he1; subst he2
 have hfl : m.fs.length = 2 := by rw [hfs]; rfl
 have HFL := Lib.hid hfl
 rw [hfl] at a0 b0 a1 a2 b1 b2 hbb ⊢
 rw [hfl] at hlc
 clear hi hi0 hf hf1 hfs hfl
 have a0 : (w.alloc (.cells #[.string (bs m.id), .int .i64 m.mn, .int .i64 m.mx, .int .i64 m.lv, .int .i64 m.sr, .int .i64 m.sm, .slice (some ⟨b, o, none⟩) 2 c, .slice A2 m.ss.length c2] 70)).cell? ⟨b, o, none⟩ = some (.string (bs [99, 104, 117, 110, 107, 115])) := a0
 have b0 : (w.alloc (.cells #[.string (bs m.id), .int .i64 m.mn, .int .i64 m.mx, .int .i64 m.lv, .int .i64 m.sr, .int .i64 m.sm, .slice (some ⟨b, o, none⟩) 2 c, .slice A2 m.ss.length c2] 70)).cell? ⟨b, o + 3, none⟩ = some (.string (bs [105, 110, 100, 101, 120])) := b0
 have A0 := Lib.hid a0
 have B0 := Lib.hid b0
 have A1 := Lib.hid (show (w.alloc (.cells #[.string (bs m.id), .int .i64 m.mn, .int .i64 m.mx, .int .i64 m.lv, .int .i64 m.sr, .int .i64 m.sm, .slice (some ⟨b, o, none⟩) 2 c, .slice A2 m.ss.length c2] 70)).cell? ⟨b, o + 1, none⟩ = some (.int .i64 s0) from a1)
 have B1 := Lib.hid (show (w.alloc (.cells #[.string (bs m.id), .int .i64 m.mn, .int .i64 m.mx, .int .i64 m.lv, .int .i64 m.sr, .int .i64 m.sm, .slice (some ⟨b, o, none⟩) 2 c, .slice A2 m.ss.length c2] 70)).cell? ⟨b, o + 3 + 1, none⟩ = some (.int .i64 s1) from b1)
 have A3 := Lib.hid (show (w.alloc (.cells #[.string (bs m.id), .int .i64 m.mn, .int .i64 m.mx, .int .i64 m.lv, .int .i64 m.sr, .int .i64 m.sm, .slice (some ⟨b, o, none⟩) 2 c, .slice A2 m.ss.length c2] 70)).cell? ⟨b, o + 2, none⟩ = some (.int .u32 u0) from a2)
 have B3 := Lib.hid (show (w.alloc (.cells #[.string (bs m.id), .int .i64 m.mn, .int .i64 m.mx, .int .i64 m.lv, .int .i64 m.sr, .int .i64 m.sm, .slice (some ⟨b, o, none⟩) 2 c, .slice A2 m.ss.length c2] 70)).cell? ⟨b, o + 3 + 2, none⟩ = some (.int .u32 u1) from b2)
 clear a1 b1 a2 b2
 go_enter Tryz.func67, Tryz.ntmps67
 go_wp2_with fail
 refine (HI.out _ hid).mono ?_
 rintro e w' ⟨rfl, n, rfl⟩
 go_wp2_with fail
 clear a0 b0 h1 h2 h3 h4 h5 h6 h7 h8
 obtain ⟨BX, hBX⟩ : ∃ BX, BX = (w.alloc (.cells #[.string (bs m.id), .int .i64 m.mn, .int .i64 m.mx, .int .i64 m.lv, .int .i64 m.sr, .int .i64 m.sm, .slice (some ⟨b, o, none⟩) 2 c, .slice A2 m.ss.length c2] 70)).drewN n := ⟨_, rfl⟩
 have hB0 : Below w.heap.size w BX := by rw [hBX]; exact below_drewN (mbelow_alloc1 _ _) n
 have hblk : Blk BX w.heap.size 70 #[.string (bs m.id), .int .i64 m.mn, .int .i64 m.mx, .int .i64 m.lv, .int .i64 m.sr, .int .i64 m.sm, .slice (some ⟨b, o, none⟩) 2 c, .slice A2 m.ss.length c2] := by rw [hBX]; exact (Blk.new _ _ _).drewN n
 have hbB : b < BX.heap.size := by rw [hBX]; exact hbb
 have a0 : Hid (BX.cell? ⟨b, o, none⟩ = some (.string (bs [99, 104, 117, 110, 107, 115]))) := by rw [hBX]; exact A0
 have b0 : Hid (BX.cell? ⟨b, o + 3, none⟩ = some (.string (bs [105, 110, 100, 101, 120]))) := by rw [hBX]; exact B0
 have a1 : Hid (BX.cell? ⟨b, o + 1, none⟩ = some (.int .i64 s0)) := by rw [hBX]; exact A1
 have b1 : Hid (BX.cell? ⟨b, o + 3 + 1, none⟩ = some (.int .i64 s1)) := by rw [hBX]; exact B1
 have a2 : Hid (BX.cell? ⟨b, o + 2, none⟩ = some (.int .u32 u0)) := by rw [hBX]; exact A3
 have b2 : Hid (BX.cell? ⟨b, o + 3 + 2, none⟩ = some (.int .u32 u1)) := by rw [hBX]; exact B3
 rw [<- hBX]
 clear hBX A0 B0 A1 B1 A3 B3 hbb
 go_loopw [85] (fun i wr => ∃ k : Nat, k <= 2 /\ i = .int .i64 k /\ Below BX.heap.size BX wr /\ Hid (∀ j, j < k -> fileOk m j)) (fun i _ => 2 - (intOf i).toNat)
 case atStart => exact ⟨0, Nat.zero_le _, rfl, Below.refl _ _, Lib.hid (fun j hj => absurd hj (Nat.not_lt_zero j))⟩
 case round =>
  obtain ⟨k, hk, rfl, hbl, hok⟩ := hrel
  by_cases hgo : k < 2
  ·have hk01 : k = 0 \/ k = 1 := by omega
   rcases hk01 with rfl | rfl
   ·have f0 : wr.cell? ⟨b, o, none⟩ = some (.string (bs [99, 104, 117, 110, 107, 115])) := (hbl.cell (p := ⟨b, o, none⟩) hbB).trans a0.out
    have f1 : wr.cell? ⟨b, o + 1, none⟩ = some (.int .i64 s0) := (hbl.cell (p := ⟨b, o + 1, none⟩) hbB).trans a1.out
    have f2 : wr.cell? ⟨b, o + 2, none⟩ = some (.int .u32 u0) := (hbl.cell (p := ⟨b, o + 2, none⟩) hbB).trans a2.out
    have hsz3 : s0 < 0 \/ (0 <= s0 /\ 1048576 < s0) \/ (0 <= s0 /\ s0 <= 1048576) := by omega
    rcases hsz3 with h1 | ⟨h1, h2⟩ | ⟨h1, h2⟩
    ·have HZ := Lib.hid (HF.out 0 (by omega) (fun h => by have := (HFD0.out).1 h; omega))
     go_wp2_with fail
     go_ret
     exact ⟨by rw [HZ.out]; rfl, below_trans (below_trans hB0 hbl) (mbelow_alloc1 _ _)⟩
    ·have HZ := Lib.hid (HF.out 0 (by omega) (fun h => by have := (HFD0.out).1 h; omega))
     have hd : decide (s0 < 0) = false := decide_eq_false (by omega)
     have hd2 : decide (1048576 < s0) = true := decide_eq_true h2
     go_wp2_with fail
     go_ret
     exact ⟨by rw [HZ.out]; rfl, below_trans (below_trans hB0 hbl) (mbelow_alloc1 _ _)⟩
    ·have hd : decide (s0 < 0) = false := decide_eq_false (by omega)
     have hd2 : decide (1048576 < s0) = false := decide_eq_false (by omega)
     have hok2 : Hid (∀ j, j < 0 + 1 -> fileOk m j) := Lib.hid (fun j hj => by
      by_cases hjk : j < 0
      ·exact hok.out j hjk
      ·obtain rfl : j = 0 := by omega
       exact HFD0.out.2 ⟨h1, h2⟩)
     go_wp2_with fail
     go_roundw
     case rel => exact ⟨0 + 1, by omega, by go_num, below_trans hbl (mbelow_alloc1 _ _), hok2⟩
     case measure => simp [intOf]
   ·have f0 : wr.cell? ⟨b, o + 3, none⟩ = some (.string (bs [105, 110, 100, 101, 120])) := (hbl.cell (p := ⟨b, o + 3, none⟩) hbB).trans b0.out
    have f1 : wr.cell? ⟨b, o + 3 + 1, none⟩ = some (.int .i64 s1) := (hbl.cell (p := ⟨b, o + 3 + 1, none⟩) hbB).trans b1.out
    have f2 : wr.cell? ⟨b, o + 3 + 2, none⟩ = some (.int .u32 u1) := (hbl.cell (p := ⟨b, o + 3 + 2, none⟩) hbB).trans b2.out
    have hsz3 : s1 < 0 \/ (0 <= s1 /\ 1048576 < s1) \/ (0 <= s1 /\ s1 <= 1048576) := by omega
    rcases hsz3 with h1 | ⟨h1, h2⟩ | ⟨h1, h2⟩
    ·have HZ := Lib.hid (HF.out 1 (by omega) (fun h => by have := (HFD1.out).1 h; omega))
     go_wp2_with fail
     go_ret
     exact ⟨by rw [HZ.out]; rfl, below_trans (below_trans hB0 hbl) (mbelow_alloc1 _ _)⟩
    ·have HZ := Lib.hid (HF.out 1 (by omega) (fun h => by have := (HFD1.out).1 h; omega))
     have hd : decide (s1 < 0) = false := decide_eq_false (by omega)
     have hd2 : decide (1048576 < s1) = true := decide_eq_true h2
     go_wp2_with fail
     go_ret
     exact ⟨by rw [HZ.out]; rfl, below_trans (below_trans hB0 hbl) (mbelow_alloc1 _ _)⟩
    ·have hd : decide (s1 < 0) = false := decide_eq_false (by omega)
     have hd2 : decide (1048576 < s1) = false := decide_eq_false (by omega)
     have hok2 : Hid (∀ j, j < 1 + 1 -> fileOk m j) := Lib.hid (fun j hj => by
      by_cases hjk : j < 1
      ·exact hok.out j hjk
      ·obtain rfl : j = 1 := by omega
       exact HFD1.out.2 ⟨h1, h2⟩)
     go_wp2_with fail
     go_roundw
     case rel => exact ⟨1 + 1, by omega, by go_num, below_trans hbl (mbelow_alloc1 _ _), hok2⟩
     case measure => simp [intOf]
  ·obtain rfl : k = 2 := by omega
   clear hgo hk
   obtain ⟨wo, rfl⟩ : ∃ wo : World, wo = wr := ⟨_, rfl⟩
   have hB1 := below_trans hB0 hbl
   have hblk := hblk.below hbl
   clear hB0 hbl a0 a1 a2 b0 b1 b2
   have c7 : wo.cell? ⟨w.heap.size, 7, none⟩ = some (.slice A2 m.ss.length c2) := hblk.cell (i := 7) rfl
   go_wp2_with fail
   clear c7
   go_loopw [5, 101] (fun l i wr => ∃ k : Nat, k <= m.ss.length /\ i = .int .i64 k /\ l = .string (bs (prev m.ss k)) /\ (∃ n, wr = wo.drewN n) /\ Hid (∀ j, j < k -> good m j)) (fun _ i _ => m.ss.length - (intOf i).toNat)
   case atStart => exact ⟨0, Nat.zero_le _, rfl, rfl, ⟨0, rfl⟩, Lib.hid (fun j hj => absurd hj (Nat.not_lt_zero j))⟩
   case round =>
    obtain ⟨k, hk, rfl, rfl, ⟨n2, rfl⟩, hgd⟩ := hrel
    by_cases hgo : k < m.ss.length
    ·obtain ⟨s, hsk⟩ : ∃ s, m.ss[k]? = some s := ⟨_, List.getElem?_eq_getElem hgo⟩
     have hsk2 := hsl s (List.mem_of_getElem? hsk)
     have hsd : m.ss.getD k [] = s := by rw [List.getD_eq_getElem?_getD, hsk]; rfl
     have hpk : prev m.ss (k + 1) = s := by unfold prev; rw [if_neg (by omega), Nat.add_sub_cancel, hsd]
     obtain ⟨p, hp⟩ : ∃ p, p = prev m.ss k := ⟨_, rfl⟩
     have hgk : good m k ↔ (idOk s = true /\ s ≠ m.id /\ Op.bytesLess p s = true) := by unfold good; rw [hsd, hp]
     obtain ⟨b', o', rfl, hbb, f0⟩ := (hs.below hB1).at_ hsk
     have c0 : wo.cell? ⟨w.heap.size, 0, none⟩ = some (.string (bs m.id)) := hblk.cell (i := 0) rfl
     have f0 : wo.cell? ⟨b', o' + k, none⟩ = some (.string (bs s)) := f0
     have hi := rid_any s
     rw [<- hp]
     have HGK := Lib.hid hgk
     have HSK := Lib.hid hsk
     have HPK := Lib.hid hpk
     have hz0 : (0 : Int) <= (k : Int) := by omega
     have hz1 : (k : Int) < m.ss.length := by omega
     clear hsd hgk hsk hpk hp
     rcases hid1 : idOk s with _ | _
     ·have HZ := Lib.hid (HS.out k hgo (fun h => by have := (HGK.out.1 h).1; rw [hid1] at this; cases this))
      rw [hid1] at hi
      have HI2 := Lib.hid hi
      clear hi hid1
      go_wp2_with fail
      refine (HI2.out _ hsk2).mono ?_
      rintro e w' ⟨rfl, n, rfl⟩
      go_wp2_with fail
      go_ret
      exact ⟨by rw [HZ.out]; rfl, below_drewN hB1 _⟩
     ·rw [hid1] at hi
      have HI2 := Lib.hid hi
      have hid1 := Lib.hid hid1
      clear hi
      rcases heq : (s == m.id) with _ | _
      ·have hne : s ≠ m.id := by rw [beq_eq_false_iff_ne] at heq; exact heq
       have hne := Lib.hid hne
       have hlt := less_total p s
       rcases hl1 : Op.bytesLess s p with _ | _
       ·rcases hl2 : (s == p) with _ | _
        ·rw [hl1, hl2] at hlt
         have hg := Lib.hid (HGK.out.2 ⟨hid1.out, hne.out, hlt⟩)
         have hg2 : Hid (∀ j, j < k + 1 -> good m j) := Lib.hid (fun j hj => by
          by_cases hj2 : j < k
          ·exact hgd.out j hj2
          ·obtain rfl : j = k := by omega
           exact hg.out)
         clear hlt
         go_wp2_with fail
         refine (HI2.out _ hsk2).mono ?_
         rintro e w' ⟨rfl, n, rfl⟩
         go_wp2_with fail
         go_roundw
         case rel =>
          repeat apply Exists.intro
          refine ⟨?_, rfl⟩
          exact ⟨k + 1, by omega, by go_num, by rw [HPK.out], ⟨n2 + n, rfl⟩, hg2⟩
         case measure => simp [intOf]; omega
        ·rw [hl1, hl2] at hlt
         have HZ := Lib.hid (HS.out k hgo (fun h => by have := (HGK.out.1 h).2.2; rw [hlt] at this; cases this))
         clear hlt
         go_wp2_with fail
         refine (HI2.out _ hsk2).mono ?_
         rintro e w' ⟨rfl, n, rfl⟩
         go_wp2_with fail
         go_ret
         exact ⟨by rw [HZ.out]; rfl, below_drewN hB1 _⟩
       ·rw [hl1] at hlt
        have HZ := Lib.hid (HS.out k hgo (fun h => by have := (HGK.out.1 h).2.2; rw [hlt] at this; cases this))
        clear hlt
        go_wp2_with fail
        refine (HI2.out _ hsk2).mono ?_
        rintro e w' ⟨rfl, n, rfl⟩
        go_wp2_with fail
        go_ret
        exact ⟨by rw [HZ.out]; rfl, below_drewN hB1 _⟩
      ·have HZ := Lib.hid (HS.out k hgo (fun h => by have := (HGK.out.1 h).2.1; rw [beq_iff_eq] at heq; exact this heq))
       go_wp2_with fail
       refine (HI2.out _ hsk2).mono ?_
       rintro e w' ⟨rfl, n, rfl⟩
       go_wp2_with fail
       go_ret
       exact ⟨by rw [HZ.out]; rfl, below_drewN hB1 _⟩
    ·have HZ := Lib.hid (HY.out ⟨HSN.out, HFL.out, h50, fun i hi => hok.out i hi, fun i hi => hgd.out i (by omega)⟩)
     go_wp2_with fail
     go_ret
     exact ⟨by rw [HZ.out]; rfl, below_drewN hB1 _⟩

theorem rcheck_any (m : Mt) (fv sv : Value) (w : World) (hf : FlsAt w fv m.fs) (hs : SrcAt w sv m.ss) (hid : m.id.length <= 1000000000000) (hsl : ∀ s ∈ m.ss, s.length <= 1000000000000) :
  Calls Tryz.prog 67 #[.agg #[.string (bs m.id), .int .i64 m.mn, .int .i64 m.mx, .int .i64 m.lv, .int .i64 m.sr, .int .i64 m.sm, fv, sv]] w (RetBelow w (.bool (chkB m))) := by
 by_cases h : sane m /\ m.fs.length = 2
 ·obtain ⟨h1, h2⟩ := h
  obtain ⟨f0, f1, hfs⟩ : ∃ f0 f1, m.fs = [f0, f1] := by
   rcases hm : m.fs with _ | ⟨a, _ | ⟨b, _ | _⟩⟩ <;> rw [hm] at h2 <;> first | exact ⟨_, _, rfl⟩ | simp at h2
  have hno : ∀ k, k < 2 -> ¬ fileOk m k -> chkB m = false := fun k hk h => chkB_file hk h
  by_cases h0 : f0.name = [99, 104, 117, 110, 107, 115]
  ·by_cases g0 : f1.name = [105, 110, 100, 101, 120]
   ·by_cases h50 : m.ss.length <= 50
    ·obtain ⟨n0, s0, u0⟩ := f0
     obtain ⟨n1, s1, u1⟩ := f1
     simp only at h0 g0
     subst h0; subst g0
     exact rcheck_good m fv sv w hf hs hid hsl h1 s0 s1 u0 u1 hfs h50
    ·rw [chkB_no (fun h' => h50 h'.2.2.1)]
     exact rcheck_names m fv sv w hf hs hid h1 f0 f1 hfs (.inr (.inr ⟨h0, g0, by omega⟩))
   ·rw [hno 1 (by omega) (fun h' => g0 (by have := h'.1; rw [hfs] at this; simpa [indexN] using this))]
    exact rcheck_names m fv sv w hf hs hid h1 f0 f1 hfs (.inr (.inl ⟨h0, g0⟩))
  ·rw [hno 0 (by omega) (fun h' => h0 (by have := h'.1; rw [hfs] at this; simpa [chunksN] using this))]
   exact rcheck_names m fv sv w hf hs hid h1 f0 f1 hfs (.inl h0)
 ·rw [chkB_no (fun h' => h ⟨h'.1, h'.2.1⟩)]
  exact rcheck_bad m fv sv w hf hs hid h

end Go.Proofs.YtgabmfibfikdbaaGreatDoor
