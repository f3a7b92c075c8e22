/-
  Layer 9: the walks of Told and of the reference's Same.
-/
import Derived.Test.YtemmgejaoegpfaaZMetK
import Derived.BigQuiet
import Derived.Deep.QuietTactic

namespace Go.Proofs.Ytemmgejaoegpfaa
open Go.RowKit Go.Bar Go.Bar.Leb Go.Bar.Frm Go.Bar.Idt Go.Bar.Met

theorem rfile_ty : ElemTy Try.prog 65 84 (.agg #[.string ByteArray.empty, .int .i64 0, .int .u32 0]) 3 32 :=
  ⟨Try.underlying65, info_parts (show (Try.prog.info? 84).map (fun i => (i.zero, i.size, i.bytes)) = some (some (.agg #[.string ByteArray.empty, .int .i64 0, .int .u32 0]), 3, 32) by kernel_rfl), rfl⟩

/-- a meta as the document's -/
def RetT (w : World) (m : Mt) (sv : Value) (en : Ending) (w' : World) : Prop :=
  ∃ fv, en = .returned (.agg #[.string (bs m.id), .int .i64 m.mn, .int .i64 m.mx, .int .i64 m.lv, .int .i64 m.sr, .int .i64 m.sm, fv, sv]) ∧ FBuf w w' 84 3 fv m.fs.length (fcs m.fs) ∧ Below w.heap.size w w'

set_option maxHeartbeats 8000000 in
set_option maxRecDepth 10000 in
theorem told_any (m : Mt) (fv sv : Value) (w : World) (hf : FlsAt w fv m.fs) (hs : SrcAt w sv m.ss) (hn : m.fs.length ≤ 1000) :
    Calls Try.prog 20 #[.agg #[.string (bs m.id), .int .i64 m.mn, .int .i64 m.mx, .int .i64 m.lv, .int .i64 m.sr, .int .i64 m.sm, fv, sv]] w (RetT w m sv) := by
  obtain ⟨A, c, rfl, hlc, hcm⟩ := hf.shape
  obtain ⟨A2, c2, rfl, hlc2, hcm2⟩ := hs.shape
  unfold maxLen at hcm hcm2
  go_enter Try.func20, Try.ntmps20
  go_upto_region 3 with fail
  have M1 := ((Blk.new w #[.string (bs m.id), .int .i64 m.mn, .int .i64 m.mx, .int .i64 m.lv, .int .i64 m.sr, .int .i64 m.sm, .slice A m.fs.length c, .slice A2 m.ss.length c2] 55).alloc (.cells #[.string { data := #[] }, .int .i64 0, .int .i64 0, .int .i64 0, .int .i64 0, .int .i64 0, .slice none 0 0, .slice none 0 0] 67)).alloc (.cells #[.string (bs m.id), .int .i64 m.mn, .int .i64 m.mx, .int .i64 m.lv, .int .i64 m.sr, .int .i64 m.sm, .slice none 0 0, .slice A2 m.ss.length c2] 67)
  have R1 := (Blk.new (w.alloc (.cells #[.string (bs m.id), .int .i64 m.mn, .int .i64 m.mx, .int .i64 m.lv, .int .i64 m.sr, .int .i64 m.sm, .slice A m.fs.length c, .slice A2 m.ss.length c2] 55)) #[.string { data := #[] }, .int .i64 0, .int .i64 0, .int .i64 0, .int .i64 0, .int .i64 0, .slice none 0 0, .slice none 0 0] 67).alloc (.cells #[.string (bs m.id), .int .i64 m.mn, .int .i64 m.mx, .int .i64 m.lv, .int .i64 m.sr, .int .i64 m.sm, .slice none 0 0, .slice A2 m.ss.length c2] 67)
  have X1 := Blk.new ((w.alloc (.cells #[.string (bs m.id), .int .i64 m.mn, .int .i64 m.mx, .int .i64 m.lv, .int .i64 m.sr, .int .i64 m.sm, .slice A m.fs.length c, .slice A2 m.ss.length c2] 55)).alloc (.cells #[.string { data := #[] }, .int .i64 0, .int .i64 0, .int .i64 0, .int .i64 0, .int .i64 0, .slice none 0 0, .slice none 0 0] 67)) #[.string (bs m.id), .int .i64 m.mn, .int .i64 m.mx, .int .i64 m.lv, .int .i64 m.sr, .int .i64 m.sm, .slice none 0 0, .slice A2 m.ss.length c2] 67
  have B1 := below_trans (below_trans (mbelow_alloc1 w (.cells #[.string (bs m.id), .int .i64 m.mn, .int .i64 m.mx, .int .i64 m.lv, .int .i64 m.sr, .int .i64 m.sm, .slice A m.fs.length c, .slice A2 m.ss.length c2] 55)) (mbelow_alloc1 _ (.cells #[.string { data := #[] }, .int .i64 0, .int .i64 0, .int .i64 0, .int .i64 0, .int .i64 0, .slice none 0 0, .slice none 0 0] 67))) (mbelow_alloc1 _ (.cells #[.string (bs m.id), .int .i64 m.mn, .int .i64 m.mx, .int .i64 m.lv, .int .i64 m.sr, .int .i64 m.sm, .slice none 0 0, .slice A2 m.ss.length c2] 67))
  rw [show (w.alloc (.cells #[.string (bs m.id), .int .i64 m.mn, .int .i64 m.mx, .int .i64 m.lv, .int .i64 m.sr, .int .i64 m.sm, .slice A m.fs.length c, .slice A2 m.ss.length c2] 55)).heap.size = w.heap.size + 1 by simp] at R1
  rw [show ((w.alloc (.cells #[.string (bs m.id), .int .i64 m.mn, .int .i64 m.mx, .int .i64 m.lv, .int .i64 m.sr, .int .i64 m.sm, .slice A m.fs.length c, .slice A2 m.ss.length c2] 55)).alloc (.cells #[.string { data := #[] }, .int .i64 0, .int .i64 0, .int .i64 0, .int .i64 0, .int .i64 0, .slice none 0 0, .slice none 0 0] 67)).heap.size = w.heap.size + 2 by simp] at X1
  obtain ⟨w1, hw1⟩ : ∃ w1, w1 = ((w.alloc (.cells #[.string (bs m.id), .int .i64 m.mn, .int .i64 m.mx, .int .i64 m.lv, .int .i64 m.sr, .int .i64 m.sm, .slice A m.fs.length c, .slice A2 m.ss.length c2] 55)).alloc (.cells #[.string { data := #[] }, .int .i64 0, .int .i64 0, .int .i64 0, .int .i64 0, .int .i64 0, .slice none 0 0, .slice none 0 0] 67)).alloc (.cells #[.string (bs m.id), .int .i64 m.mn, .int .i64 m.mx, .int .i64 m.lv, .int .i64 m.sr, .int .i64 m.sm, .slice none 0 0, .slice A2 m.ss.length c2] 67) := ⟨_, rfl⟩
  rw [← hw1] at M1 R1 X1 B1 ⊢
  clear hw1
  have d6 : w1.cell? ⟨w.heap.size, 6, none⟩ = some (.slice A m.fs.length c) := M1.cell (i := 6) rfl
  clear d6
  go_loopw [24] (fun i wr => ∃ (k : Nat) (gv : Value), i = .int .i64 k ∧ k ≤ m.fs.length ∧ Blk wr (w.heap.size + 1) 67 #[.string { data := #[] }, .int .i64 0, .int .i64 0, .int .i64 0, .int .i64 0, .int .i64 0, .slice none 0 0, .slice none 0 0] ∧ Blk wr (w.heap.size + 2) 67 #[.string (bs m.id), .int .i64 m.mn, .int .i64 m.mx, .int .i64 m.lv, .int .i64 m.sr, .int .i64 m.sm, gv, .slice A2 m.ss.length c2] ∧ FBuf w wr 84 3 gv k (fcs (m.fs.take k)) ∧ Below w.heap.size w wr) (fun i _ => m.fs.length - (intOf i).toNat)
  case atStart => exact ⟨0, _, rfl, Nat.zero_le _, R1, X1, by simpa [fcs] using FBuf.nil w w1 84 3, B1⟩
  case round =>
    obtain ⟨k, gv, rfl, hk, hR, hX, hF, hB⟩ := hrel
    clear M1 R1 X1 B1
    have hshape := hF.buf.shape
    obtain ⟨fA, fc, rfl, hfc⟩ := hshape
    by_cases hgo : k < m.fs.length
    · obtain ⟨f, hfk⟩ : ∃ f, m.fs[k]? = some f := ⟨_, List.getElem?_eq_getElem hgo⟩
      obtain ⟨b, o, rfl, hbb, f0, f1, f2⟩ := (hf.below hB).at_ hfk
      have HFK := Lib.hid hfk
      clear hfk
      obtain ⟨nm, sz, su⟩ := f
      simp only at f0 f1 f2
      have hlt := hX.lt
      have hR1 := hR.alloc (.cells #[.string (bs nm), .int .i64 sz, .int .u32 su] 59)
      have hX1 := hX.alloc (.cells #[.string (bs nm), .int .i64 sz, .int .u32 su] 59)
      have hF1 := hF.alloc (.cells #[.string (bs nm), .int .i64 sz, .int .u32 su] 59)
      have hB1 := below_trans hB (mbelow_alloc1 wr (.cells #[.string (bs nm), .int .i64 sz, .int .u32 su] 59))
      have d : ∀ o, (wr.alloc o).cell? ⟨w.heap.size + 2, 6, none⟩ = some (.slice fA k fc) := fun o => (hX.alloc o).cell (i := 6) rfl
      have hne : w.heap.size + 2 ≠ wr.heap.size := by omega
      clear hR hX hF hB
      go_wp2_with (at_builtin; refine wpList_append_flit rfl (.tmp 29) (.tmp 31) 65 rfl rfile_ty rfl hF1.buf rfl (by simp) rfl (by simp [Value.oneCell']) (by simp only [maxLen]; omega) (by omega) ?_; intro v3 w5 hb5 ha5 hg5; obtain ⟨gA, gc, rfl, hgc⟩ := hb5.shape; have hR2 := (hR1.alloc _).ap (hF1.alloc _).buf ha5 (by decide); have hX2 := (hX1.alloc _).ap (hF1.alloc _).buf ha5 (by decide); have hsz := Nat.le_trans hB1.size (mbelow_alloc1 _ (.cells #[.string (bs nm), .int .i64 sz, .int .u32 su] 84)).size; have hB2 := (below_trans hB1 (mbelow_alloc1 _ (.cells #[.string (bs nm), .int .i64 sz, .int .u32 su] 84))).trans ((hF1.alloc (.cells #[.string (bs nm), .int .i64 sz, .int .u32 su] 84)).belowB hsz ha5); have hF2 := (hF1.alloc (.cells #[.string (bs nm), .int .i64 sz, .int .u32 su] 84)).step hsz hb5 hg5; clear hb5 ha5 hg5 hsz d; have d : w5.cell? ⟨w.heap.size + 2, 6, none⟩ = some (.slice fA k fc) := hX2.cell (i := 6) rfl; have df := hX2.free 6)
      have hn2 : fcs (m.fs.take (k + 1)) = fcs (m.fs.take k) ++ [.string (bs nm), .int .i64 sz, .int .u32 su] := by
        rw [List.take_add_one, HFK.out]
        exact fcs_snoc _ _
      go_roundw
      case rel => exact ⟨k + 1, _, by go_num, by omega, hR2.other (show w.heap.size + 1 ≠ w.heap.size + 2 by omega) 6 _, hX2.set 6 (.slice gA (k + 1) gc), by rw [hn2]; exact hF2.set_ne hX2 (by decide) 6 _, hB2.setCell (show w.heap.size ≤ w.heap.size + 2 by omega) _⟩
      case measure => simp [intOf]; omega
    · have hkk : k = m.fs.length := by omega
      have hfs : FBuf w wr 84 3 (.slice fA k fc) m.fs.length (fcs m.fs) := by
        rw [hkk] at hF ⊢
        rw [List.take_of_length_le (Nat.le_refl _)] at hF
        exact hF
      have HF := Lib.hid (FBuf.set_ne2 (FBuf.set_ne2 (FBuf.set_ne2 (FBuf.set_ne2 (FBuf.set_ne2 (FBuf.set_ne2 (FBuf.set_ne2 (FBuf.set_ne2 ⟨hfs, _, hR⟩ (by decide) 0 (.string (bs m.id))) (by decide) 1 (.int .i64 m.mn)) (by decide) 2 (.int .i64 m.mx)) (by decide) 3 (.int .i64 m.lv)) (by decide) 4 (.int .i64 m.sr)) (by decide) 5 (.int .i64 m.sm)) (by decide) 6 (.slice fA k fc)) (by decide) 7 (.slice A2 m.ss.length c2))
      have HB := Lib.hid hB
      have HG := Lib.hid (frR_set (frR_set (frR_set (frR_set (frR_set (frR_set (frR_set (frR_set (Fr.refl (fun k _ => k = w.heap.size + 1) wr) 0 (.string (bs m.id))) 1 (.int .i64 m.mn)) 2 (.int .i64 m.mx)) 3 (.int .i64 m.lv)) 4 (.int .i64 m.sr)) 5 (.int .i64 m.sm)) 6 (.slice fA k fc)) 7 (.slice A2 m.ss.length c2))
      clear hkk hfs hF hB
      have r0 : wr.cell? ⟨w.heap.size + 1, 0, none⟩ = some (.string { data := #[] }) := hR.cell (i := 0) rfl
      have q0 := hR.free 0
      have r1 : wr.cell? ⟨w.heap.size + 1, 1, none⟩ = some (.int .i64 0) := hR.cell (i := 1) rfl
      have q1 := hR.free 1
      have r2 : wr.cell? ⟨w.heap.size + 1, 2, none⟩ = some (.int .i64 0) := hR.cell (i := 2) rfl
      have q2 := hR.free 2
      have r3 : wr.cell? ⟨w.heap.size + 1, 3, none⟩ = some (.int .i64 0) := hR.cell (i := 3) rfl
      have q3 := hR.free 3
      have r4 : wr.cell? ⟨w.heap.size + 1, 4, none⟩ = some (.int .i64 0) := hR.cell (i := 4) rfl
      have q4 := hR.free 4
      have r5 : wr.cell? ⟨w.heap.size + 1, 5, none⟩ = some (.int .i64 0) := hR.cell (i := 5) rfl
      have q5 := hR.free 5
      have r6 : wr.cell? ⟨w.heap.size + 1, 6, none⟩ = some (.slice none 0 0) := hR.cell (i := 6) rfl
      have q6 := hR.free 6
      have r7 : wr.cell? ⟨w.heap.size + 1, 7, none⟩ = some (.slice none 0 0) := hR.cell (i := 7) rfl
      have q7 := hR.free 7
      have z0 : wr.cell? ⟨w.heap.size + 2, 0, none⟩ = some (.string (bs m.id)) := hX.cell (i := 0) rfl
      have z1 : wr.cell? ⟨w.heap.size + 2, 1, none⟩ = some (.int .i64 m.mn) := hX.cell (i := 1) rfl
      have z2 : wr.cell? ⟨w.heap.size + 2, 2, none⟩ = some (.int .i64 m.mx) := hX.cell (i := 2) rfl
      have z3 : wr.cell? ⟨w.heap.size + 2, 3, none⟩ = some (.int .i64 m.lv) := hX.cell (i := 3) rfl
      have z4 : wr.cell? ⟨w.heap.size + 2, 4, none⟩ = some (.int .i64 m.sr) := hX.cell (i := 4) rfl
      have z5 : wr.cell? ⟨w.heap.size + 2, 5, none⟩ = some (.int .i64 m.sm) := hX.cell (i := 5) rfl
      have z6 : wr.cell? ⟨w.heap.size + 2, 6, none⟩ = some (.slice fA k fc) := hX.cell (i := 6) rfl
      have z7 : wr.cell? ⟨w.heap.size + 2, 7, none⟩ = some (.slice A2 m.ss.length c2) := hX.cell (i := 7) rfl
      clear hR hX
      go_wp2_with fail
      refine bodyPost_ret (v := .agg #[.string (bs m.id), .int .i64 m.mn, .int .i64 m.mx, .int .i64 m.lv, .int .i64 m.sr, .int .i64 m.sm, .slice fA k fc, .slice A2 m.ss.length c2]) (by simp [results, Try.results20, go_sem, r0, r1, r2, r3, r4, r5, r6, r7]) rfl ?_
      exact ⟨_, rfl, HF.out.1, HB.out.trans (Fr.below HG.out HB.out.size (fun k i hk h => by have h : k = w.heap.size + 1 := h; omega))⟩

set_option maxHeartbeats 8000000 in
set_option maxRecDepth 10000 in
theorem metaSame_any (m : Mt) (fv sv fv' sv' : Value) (w : World) (hf : FlsAt w fv m.fs) (hs : SrcAt w sv m.ss) (hf' : FlsAt w fv' m.fs) (hs' : SrcAt w sv' m.ss) :
    Calls Try.prog 24 #[.agg #[.string (bs m.id), .int .i64 m.mn, .int .i64 m.mx, .int .i64 m.lv, .int .i64 m.sr, .int .i64 m.sm, fv, sv], .agg #[.string (bs m.id), .int .i64 m.mn, .int .i64 m.mx, .int .i64 m.lv, .int .i64 m.sr, .int .i64 m.sm, fv', sv']] w (RetBelow w (.bool true)) := by
  obtain ⟨A1, c1, rfl, hlc1, hcm1⟩ := hf.shape
  obtain ⟨A2, c2, rfl, hlc2, hcm2⟩ := hs.shape
  obtain ⟨A3, c3, rfl, hlc3, hcm3⟩ := hf'.shape
  obtain ⟨A4, c4, rfl, hlc4, hcm4⟩ := hs'.shape
  unfold maxLen at hcm1 hcm2 hcm3 hcm4
  go_enter Try.func24, Try.ntmps24
  go_upto_region 4 with fail
  have M1 := (Blk.new w #[.string (bs m.id), .int .i64 m.mn, .int .i64 m.mx, .int .i64 m.lv, .int .i64 m.sr, .int .i64 m.sm, .slice A1 m.fs.length c1, .slice A2 m.ss.length c2] 67).alloc (.cells #[.string (bs m.id), .int .i64 m.mn, .int .i64 m.mx, .int .i64 m.lv, .int .i64 m.sr, .int .i64 m.sm, .slice A3 m.fs.length c3, .slice A4 m.ss.length c4] 67)
  have N1 := Blk.new (w.alloc (.cells #[.string (bs m.id), .int .i64 m.mn, .int .i64 m.mx, .int .i64 m.lv, .int .i64 m.sr, .int .i64 m.sm, .slice A1 m.fs.length c1, .slice A2 m.ss.length c2] 67)) #[.string (bs m.id), .int .i64 m.mn, .int .i64 m.mx, .int .i64 m.lv, .int .i64 m.sr, .int .i64 m.sm, .slice A3 m.fs.length c3, .slice A4 m.ss.length c4] 67
  have B1 := below_trans (mbelow_alloc1 w (.cells #[.string (bs m.id), .int .i64 m.mn, .int .i64 m.mx, .int .i64 m.lv, .int .i64 m.sr, .int .i64 m.sm, .slice A1 m.fs.length c1, .slice A2 m.ss.length c2] 67)) (mbelow_alloc1 _ (.cells #[.string (bs m.id), .int .i64 m.mn, .int .i64 m.mx, .int .i64 m.lv, .int .i64 m.sr, .int .i64 m.sm, .slice A3 m.fs.length c3, .slice A4 m.ss.length c4] 67))
  rw [show (w.alloc (.cells #[.string (bs m.id), .int .i64 m.mn, .int .i64 m.mx, .int .i64 m.lv, .int .i64 m.sr, .int .i64 m.sm, .slice A1 m.fs.length c1, .slice A2 m.ss.length c2] 67)).heap.size = w.heap.size + 1 by simp] at N1
  obtain ⟨w1, hw1⟩ : ∃ w1, w1 = (w.alloc (.cells #[.string (bs m.id), .int .i64 m.mn, .int .i64 m.mx, .int .i64 m.lv, .int .i64 m.sr, .int .i64 m.sm, .slice A1 m.fs.length c1, .slice A2 m.ss.length c2] 67)).alloc (.cells #[.string (bs m.id), .int .i64 m.mn, .int .i64 m.mx, .int .i64 m.lv, .int .i64 m.sr, .int .i64 m.sm, .slice A3 m.fs.length c3, .slice A4 m.ss.length c4] 67) := ⟨_, rfl⟩
  rw [← hw1] at M1 N1 B1 ⊢
  clear hw1
  have hf1 := hf.below B1
  have hs1 := hs.below B1
  have hf2 := hf'.below B1
  have hs2 := hs'.below B1
  clear hf hs hf' hs'
  go_loopw [26] (fun i wr => ∃ k n : Nat, k ≤ m.fs.length ∧ i = .int .i64 k ∧ wr = w1.drewN n) (fun i _ => m.fs.length - (intOf i).toNat)
  case atStart => exact ⟨0, 0, Nat.zero_le _, rfl, rfl⟩
  case round =>
    obtain ⟨k, n, hk, rfl, rfl⟩ := hrel
    by_cases hgo : k < m.fs.length
    · obtain ⟨f, hfk⟩ : ∃ f, m.fs[k]? = some f := ⟨_, List.getElem?_eq_getElem hgo⟩
      obtain ⟨b, o, rfl, _, f0, f1, f2⟩ := hf1.at_ hfk
      obtain ⟨b', o', rfl, _, g0, g1, g2⟩ := hf2.at_ hfk
      obtain ⟨nm, sz, su⟩ := f
      simp only at f0 f1 f2 g0 g1 g2
      clear hfk
      have c6 : w1.cell? ⟨w.heap.size, 6, none⟩ = some (.slice (some ⟨b, o, none⟩) m.fs.length c1) := M1.cell (i := 6) rfl
      have d6 : w1.cell? ⟨w.heap.size + 1, 6, none⟩ = some (.slice (some ⟨b', o', none⟩) m.fs.length c3) := N1.cell (i := 6) rfl
      have hci : (0 : Int) ≤ (k : Int) := by omega
      have hci2 : (k : Int) < m.fs.length := by omega
      go_wp2_with fail
      go_quiet (fail)
      go_wp2_with fail
      go_roundw
      case rel => exact ⟨k + 1, n + nq, by omega, by go_num, rfl⟩
      case measure => simp [intOf]; omega
    · obtain ⟨wo, hwo⟩ : ∃ wo, wo = w1.drewN n := ⟨_, rfl⟩
      have M2 := M1.drewN n
      have N2 := N1.drewN n
      have hs3 := hs1.below (below_draws w1 n)
      have hs4 := hs2.below (below_draws w1 n)
      have B2 := below_trans B1 (below_draws w1 n)
      rw [← hwo] at M2 N2 hs3 hs4 B2 ⊢
      clear hwo hf1 hs1 hf2 hs2 M1 N1 B1
      have c7 : wo.cell? ⟨w.heap.size, 7, none⟩ = some (.slice A2 m.ss.length c2) := M2.cell (i := 7) rfl
      go_wp2_with fail
      clear c7
      go_loopw [44] (fun i wr => ∃ k n : Nat, k ≤ m.ss.length ∧ i = .int .i64 k ∧ wr = wo.drewN n) (fun i _ => m.ss.length - (intOf i).toNat)
      case atStart => exact ⟨0, 0, Nat.zero_le _, rfl, rfl⟩
      case round =>
        obtain ⟨k, n, hk, rfl, rfl⟩ := hrel
        by_cases hgo : k < m.ss.length
        · obtain ⟨s, hsk⟩ : ∃ s, m.ss[k]? = some s := ⟨_, List.getElem?_eq_getElem hgo⟩
          obtain ⟨b, o, rfl, _, f0⟩ := hs3.at_ hsk
          obtain ⟨b', o', rfl, _, g0⟩ := hs4.at_ hsk
          clear hsk
          have c7 : wo.cell? ⟨w.heap.size, 7, none⟩ = some (.slice (some ⟨b, o, none⟩) m.ss.length c2) := M2.cell (i := 7) rfl
          have d7 : wo.cell? ⟨w.heap.size + 1, 7, none⟩ = some (.slice (some ⟨b', o', none⟩) m.ss.length c4) := N2.cell (i := 7) rfl
          have hci : (0 : Int) ≤ (k : Int) := by omega
          have hci2 : (k : Int) < m.ss.length := by omega
          go_wp2_with fail
          go_quiet (fail)
          go_wp2_with fail
          go_roundw
          case rel => exact ⟨k + 1, n + nq, by omega, by go_num, rfl⟩
          case measure => simp [intOf]; omega
        · obtain ⟨wp, hwp⟩ : ∃ wp, wp = wo.drewN n := ⟨_, rfl⟩
          have M3 := M2.drewN n
          have N3 := N2.drewN n
          have B3 := below_trans B2 (below_draws wo n)
          rw [← hwp] at M3 N3 B3 ⊢
          clear hwp hs3 hs4 M2 N2 B2
          have c0 : wp.cell? ⟨w.heap.size, 0, none⟩ = some (.string (bs m.id)) := M3.cell (i := 0) rfl
          have c1 : wp.cell? ⟨w.heap.size, 1, none⟩ = some (.int .i64 m.mn) := M3.cell (i := 1) rfl
          have c2 : wp.cell? ⟨w.heap.size, 2, none⟩ = some (.int .i64 m.mx) := M3.cell (i := 2) rfl
          have c3 : wp.cell? ⟨w.heap.size, 3, none⟩ = some (.int .i64 m.lv) := M3.cell (i := 3) rfl
          have c4 : wp.cell? ⟨w.heap.size, 4, none⟩ = some (.int .i64 m.sr) := M3.cell (i := 4) rfl
          have c5 : wp.cell? ⟨w.heap.size, 5, none⟩ = some (.int .i64 m.sm) := M3.cell (i := 5) rfl
          have d0 : wp.cell? ⟨w.heap.size + 1, 0, none⟩ = some (.string (bs m.id)) := N3.cell (i := 0) rfl
          have d1 : wp.cell? ⟨w.heap.size + 1, 1, none⟩ = some (.int .i64 m.mn) := N3.cell (i := 1) rfl
          have d2 : wp.cell? ⟨w.heap.size + 1, 2, none⟩ = some (.int .i64 m.mx) := N3.cell (i := 2) rfl
          have d3 : wp.cell? ⟨w.heap.size + 1, 3, none⟩ = some (.int .i64 m.lv) := N3.cell (i := 3) rfl
          have d4 : wp.cell? ⟨w.heap.size + 1, 4, none⟩ = some (.int .i64 m.sr) := N3.cell (i := 4) rfl
          have d5 : wp.cell? ⟨w.heap.size + 1, 5, none⟩ = some (.int .i64 m.sm) := N3.cell (i := 5) rfl
          go_wp2_with fail
          go_ret
          exact ⟨rfl, B3⟩

end Go.Proofs.Ytemmgejaoegpfaa
