/-
  Layer 9: the walks of Decode and of the laws' own awake.
-/
import Derived.Test.YtdmhjejjgcfplaaMetD
namespace Go.Proofs.Ytdmhjejjgcfplaa
open Go.RowKit Go.Bar Go.Bar.Leb Go.Bar.Frm Go.Bar.Idt Go.Bar.Met

theorem frR_set {w w' : World} {B : Nat} (h : TkFr B w w') (i : Nat) (v : Value) : TkFr B w (w'.setCell ⟨B, i, none⟩ v) := Fr.setCell h (fun _ => rfl) v
/-- a meta that was decoded -/
def RetDec (w : World) (m : Mt) (en : Ending) (w' : World) : Prop :=
  ∃ fv sv, en = .returned (.tuple #[.agg #[.string (bs m.id), .int .i64 m.mn, .int .i64 m.mx, .int .i64 m.lv, .int .i64 m.sr, .int .i64 m.sm, fv, sv], .int .i64 0]) ∧ FBuf w w' 45 3 fv m.fs.length (fcs m.fs) ∧ FBuf w w' 9 1 sv m.ss.length (scs m.ss) ∧ Below w.heap.size w w'
/-- none was -/
def RetNoDec (w : World) (en : Ending) (w' : World) : Prop :=
  ∃ e : Nat, e ≠ 0 ∧ en = .returned (.tuple #[.agg #[.string { data := #[] }, .int .i64 0, .int .i64 0, .int .i64 0, .int .i64 0, .int .i64 0, .slice none 0 0, .slice none 0 0], .int .i64 e]) ∧ Below w.heap.size w w'
/-- bytes that are a meta's -/
def Dec (s : List UInt8) (m : Mt) : Prop := ∃ d, only s 1 = (d, 0) ∧ tFields d 0 = (m, [], 0) ∧ Ok m

set_option maxHeartbeats 4000000 in
set_option maxRecDepth 10000 in
theorem decode_good {s : List UInt8} {m : Mt} (h : Dec s m) (w : World) (hl : s.length ≤ 100000000000) :
    Calls Try.prog 23 #[.string (bs s)] w (RetDec w m) := by
  obtain ⟨d, h1, h2, hok⟩ := h
  have ho := only_any s 1
  rw [h1] at ho
  simp only at ho
  have hdl : d.length ≤ 1048576 := (only_one h1).2
  have HO := Lib.hid ho
  have HT := Lib.hid (take_good h2 hok)
  clear ho h1 h2 hok
  go_enter Try.func23, Try.ntmps23
  go_wp2_with fail
  have hbR := Blk.new w #[.string { data := #[] }, .int .i64 0, .int .i64 0, .int .i64 0, .int .i64 0, .int .i64 0, .slice none 0 0, .slice none 0 0] 25
  have hb0 := below_alloc1 w (.cells #[.string { data := #[] }, .int .i64 0, .int .i64 0, .int .i64 0, .int .i64 0, .int .i64 0, .slice none 0 0, .slice none 0 0] 25)
  refine (HO.out _ (by omega)).mono ?_
  rintro e w1 ⟨rfl, hb1⟩
  have hbR := hbR.below hb1
  have hb0 := below_trans hb0 hb1
  clear hb1
  go_wp2_with fail
  refine (HT.out _ (by omega)).mono ?_
  rintro e w2 ⟨fv, sv, rfl, hf, hs, hb2⟩
  obtain ⟨A, c, rfl, hlc⟩ := hf.buf.shape
  obtain ⟨A2, c2, rfl, hlc2⟩ := hs.buf.shape
  have hlt := hbR.lt
  have hbR := hbR.below hb2
  have hb0 := below_trans hb0 hb2
  have hba := below_alloc1 w2 (.cells #[.string (bs m.id), .int .i64 m.mn, .int .i64 m.mx, .int .i64 m.lv, .int .i64 m.sr, .int .i64 m.sm, .slice A m.fs.length c, .slice A2 m.ss.length c2] 25)
  have hbR := hbR.below hba
  have hb0 := below_trans hb0 hba
  have hf := hf.below hba
  have hs := hs.below hba
  have hM := Blk.new w2 #[.string (bs m.id), .int .i64 m.mn, .int .i64 m.mx, .int .i64 m.lv, .int .i64 m.sr, .int .i64 m.sm, .slice A m.fs.length c, .slice A2 m.ss.length c2] 25
  have hne : w2.heap.size ≠ w.heap.size := by have := hb2.size; omega
  obtain ⟨w5, hw5⟩ : ∃ w5, w5 = w2.alloc (.cells #[.string (bs m.id), .int .i64 m.mn, .int .i64 m.mx, .int .i64 m.lv, .int .i64 m.sr, .int .i64 m.sm, .slice A m.fs.length c, .slice A2 m.ss.length c2] 25) := ⟨_, rfl⟩
  rw [← hw5] at hbR hb0 hf hs hM
  have : w.heap.size = w.heap.size ∨ w.heap.size = w.heap.size + 1 := .inl rfl
  have G5 : TkFr w.heap.size w5 w5 := Fr.refl _ w5
  have HGE := Lib.hid (frR_set (frR_set (frR_set (frR_set (frR_set (frR_set (frR_set (frR_set G5 0 (.string (bs m.id))) 1 (.int .i64 m.mn)) 2 (.int .i64 m.mx)) 3 (.int .i64 m.lv)) 4 (.int .i64 m.sr)) 5 (.int .i64 m.sm)) 6 (.slice A m.fs.length c)) 7 (.slice A2 m.ss.length c2))
  have HF := Lib.hid hf
  have HS := Lib.hid hs
  have HB := Lib.hid hb0
  have HLT := Lib.hid hlt
  have HW := Lib.hid hw5
  go_upto_region 5 with fail
  rw [← HW.out]
  have r0 : w5.cell? ⟨w.heap.size, 0, none⟩ = some (.string { data := #[] }) := hbR.cell (i := 0) rfl
  have q0 := hbR.free 0
  have r1 : w5.cell? ⟨w.heap.size, 1, none⟩ = some (.int .i64 0) := hbR.cell (i := 1) rfl
  have q1 := hbR.free 1
  have r2 : w5.cell? ⟨w.heap.size, 2, none⟩ = some (.int .i64 0) := hbR.cell (i := 2) rfl
  have q2 := hbR.free 2
  have r3 : w5.cell? ⟨w.heap.size, 3, none⟩ = some (.int .i64 0) := hbR.cell (i := 3) rfl
  have q3 := hbR.free 3
  have r4 : w5.cell? ⟨w.heap.size, 4, none⟩ = some (.int .i64 0) := hbR.cell (i := 4) rfl
  have q4 := hbR.free 4
  have r5 : w5.cell? ⟨w.heap.size, 5, none⟩ = some (.int .i64 0) := hbR.cell (i := 5) rfl
  have q5 := hbR.free 5
  have r6 : w5.cell? ⟨w.heap.size, 6, none⟩ = some (.slice none 0 0) := hbR.cell (i := 6) rfl
  have q6 := hbR.free 6
  have r7 : w5.cell? ⟨w.heap.size, 7, none⟩ = some (.slice none 0 0) := hbR.cell (i := 7) rfl
  have q7 := hbR.free 7
  have m0 : w5.cell? ⟨w2.heap.size, 0, none⟩ = some (.string (bs m.id)) := hM.cell (i := 0) rfl
  have m1 : w5.cell? ⟨w2.heap.size, 1, none⟩ = some (.int .i64 m.mn) := hM.cell (i := 1) rfl
  have m2 : w5.cell? ⟨w2.heap.size, 2, none⟩ = some (.int .i64 m.mx) := hM.cell (i := 2) rfl
  have m3 : w5.cell? ⟨w2.heap.size, 3, none⟩ = some (.int .i64 m.lv) := hM.cell (i := 3) rfl
  have m4 : w5.cell? ⟨w2.heap.size, 4, none⟩ = some (.int .i64 m.sr) := hM.cell (i := 4) rfl
  have m5 : w5.cell? ⟨w2.heap.size, 5, none⟩ = some (.int .i64 m.sm) := hM.cell (i := 5) rfl
  have m6 : w5.cell? ⟨w2.heap.size, 6, none⟩ = some (.slice A m.fs.length c) := hM.cell (i := 6) rfl
  have m7 : w5.cell? ⟨w2.heap.size, 7, none⟩ = some (.slice A2 m.ss.length c2) := hM.cell (i := 7) rfl
  clear hbR hb0 hf hs hM hw5 G5 hba hb2 hlt
  go_wp2_with fail
  refine bodyPost_ret (v := .tuple #[.agg #[.string (bs m.id), .int .i64 m.mn, .int .i64 m.mx, .int .i64 m.lv, .int .i64 m.sr, .int .i64 m.sm, .slice A m.fs.length c, .slice A2 m.ss.length c2], .int .i64 0]) (by simp [results, Try.results23, go_sem, r0, r1, r2, r3, r4, r5, r6, r7]) rfl ?_
  have hsz : w.heap.size + 1 ≤ w1.heap.size := HLT.out
  exact ⟨_, _, rfl, (HF.out.fr HGE.out (fun k i hk h => by have h : k = w.heap.size := h; omega)).older (by omega), (HS.out.fr HGE.out (fun k i hk h => by have h : k = w.heap.size := h; omega)).older (by omega), HB.out.trans (Fr.below HGE.out HB.out.size (fun k i hk h => by have h : k = w.heap.size := h; omega))⟩

theorem takes_or (d : List UInt8) : (∃ m, tFields d 0 = (m, [], 0) ∧ Ok m) ∨ (∃ m r, tFields d 0 = (m, r, 0) ∧ Ok m ∧ r ≠ []) ∨ ∀ m r, tFields d 0 = (m, r, 0) → ¬ Ok m := by
  obtain ⟨m, r, e, ht⟩ : ∃ a b c, tFields d 0 = (a, b, c) := ⟨_, _, _, rfl⟩
  by_cases he : e = 0
  · subst he
    by_cases hok : Ok m
    · by_cases hr : r = []
      · subst hr; exact .inl ⟨m, ht, hok⟩
      · exact .inr (.inl ⟨m, r, ht, hok, hr⟩)
    · exact .inr (.inr (fun m' r' h => by rw [ht] at h; simp only [Prod.mk.injEq] at h; rw [← h.1]; exact hok))
  · exact .inr (.inr (fun m' r' h => by rw [ht] at h; simp only [Prod.mk.injEq] at h; exact absurd h.2.2 he))

set_option maxHeartbeats 4000000 in
set_option maxRecDepth 10000 in
theorem decode_no {s : List UInt8} (h : ∀ m, ¬ Dec s m) (w : World) (hl : s.length ≤ 100000000000) :
    Calls Try.prog 23 #[.string (bs s)] w (RetNoDec w) := by
  have ho := only_any s 1
  obtain ⟨d, er, hd⟩ : ∃ a b, only s 1 = (a, b) := ⟨_, _, rfl⟩
  rw [hd] at ho
  simp only at ho
  have HO := Lib.hid ho
  clear ho
  have hbR := Blk.new w #[.string { data := #[] }, .int .i64 0, .int .i64 0, .int .i64 0, .int .i64 0, .int .i64 0, .slice none 0 0, .slice none 0 0] 25
  have hb0 := below_alloc1 w (.cells #[.string { data := #[] }, .int .i64 0, .int .i64 0, .int .i64 0, .int .i64 0, .int .i64 0, .slice none 0 0, .slice none 0 0] 25)
  have : w.heap.size = w.heap.size ∨ w.heap.size = w.heap.size + 1 := .inl rfl
  by_cases her : er = 0
  · subst her
    have hdl : d.length ≤ 1048576 := (only_one hd).2
    rcases takes_or d with ⟨m, h1, h2⟩ | ⟨m, r, h1, h2, h3⟩ | h1
    · exact absurd ⟨d, hd, h1, h2⟩ (h m)
    · have HT := Lib.hid (take_good h1 h2)
      have hb : r.isEmpty = false := by cases r; exact absurd rfl h3; rfl
      have hb2 : (r != []) = true := by rw [bne_iff_ne]; exact h3
      clear h1 h2 h3 hd h
      go_enter Try.func23, Try.ntmps23
      go_wp2_with fail
      refine (HO.out _ (by omega)).mono ?_
      rintro e w1 ⟨rfl, hb1⟩
      have hbR := hbR.below hb1
      have hb0 := below_trans hb0 hb1
      clear hb1
      go_wp2_with fail
      refine (HT.out _ (by omega)).mono ?_
      rintro e w2 ⟨fv, sv, rfl, hf, hs, hb2⟩
      obtain ⟨A, c, rfl, hlc⟩ := hf.buf.shape
      obtain ⟨A2, c2, rfl, hlc2⟩ := hs.buf.shape
      have hba := below_alloc1 w2 (.cells #[.string (bs m.id), .int .i64 m.mn, .int .i64 m.mx, .int .i64 m.lv, .int .i64 m.sr, .int .i64 m.sm, .slice A m.fs.length c, .slice A2 m.ss.length c2] 25)
      have hbR := (hbR.below hb2).below hba
      have hb0 := below_trans (below_trans hb0 hb2) hba
      obtain ⟨w5, hw5⟩ : ∃ w5, w5 = w2.alloc (.cells #[.string (bs m.id), .int .i64 m.mn, .int .i64 m.mx, .int .i64 m.lv, .int .i64 m.sr, .int .i64 m.sm, .slice A m.fs.length c, .slice A2 m.ss.length c2] 25) := ⟨_, rfl⟩
      rw [← hw5] at hbR hb0
      have HW := Lib.hid hw5
      clear hba hb2 hf hs
      go_upto_region 5 with fail
      rw [← HW.out]
      have r0 : w5.cell? ⟨w.heap.size, 0, none⟩ = some (.string { data := #[] }) := hbR.cell (i := 0) rfl
      have q0 := hbR.free 0
      have r1 : w5.cell? ⟨w.heap.size, 1, none⟩ = some (.int .i64 0) := hbR.cell (i := 1) rfl
      have q1 := hbR.free 1
      have r2 : w5.cell? ⟨w.heap.size, 2, none⟩ = some (.int .i64 0) := hbR.cell (i := 2) rfl
      have q2 := hbR.free 2
      have r3 : w5.cell? ⟨w.heap.size, 3, none⟩ = some (.int .i64 0) := hbR.cell (i := 3) rfl
      have q3 := hbR.free 3
      have r4 : w5.cell? ⟨w.heap.size, 4, none⟩ = some (.int .i64 0) := hbR.cell (i := 4) rfl
      have q4 := hbR.free 4
      have r5 : w5.cell? ⟨w.heap.size, 5, none⟩ = some (.int .i64 0) := hbR.cell (i := 5) rfl
      have q5 := hbR.free 5
      have r6 : w5.cell? ⟨w.heap.size, 6, none⟩ = some (.slice none 0 0) := hbR.cell (i := 6) rfl
      have q6 := hbR.free 6
      have r7 : w5.cell? ⟨w.heap.size, 7, none⟩ = some (.slice none 0 0) := hbR.cell (i := 7) rfl
      have q7 := hbR.free 7
      have HG := Lib.hid (frR_set (frR_set (frR_set (frR_set (frR_set (frR_set (frR_set (frR_set (Fr.refl (fun k _ => k = w.heap.size) w5) 0 (.string { data := #[] })) 1 (.int .i64 0)) 2 (.int .i64 0)) 3 (.int .i64 0)) 4 (.int .i64 0)) 5 (.int .i64 0)) 6 (.slice none 0 0)) 7 (.slice none 0 0))
      have HB := Lib.hid hb0
      clear hbR hb0 hw5
      go_wp2_with fail
      refine bodyPost_ret (v := .tuple #[.agg #[.string { data := #[] }, .int .i64 0, .int .i64 0, .int .i64 0, .int .i64 0, .int .i64 0, .slice none 0 0, .slice none 0 0], .int .i64 3]) (by simp [results, Try.results23, go_sem, r0, r1, r2, r3, r4, r5, r6, r7]) rfl ?_
      exact ⟨3, by omega, rfl, HB.out.trans (Fr.below HG.out HB.out.size (fun k i hk h => by have h : k = w.heap.size := h; omega))⟩
    · have HT := Lib.hid (take_no h1)
      clear h1 hd h
      go_enter Try.func23, Try.ntmps23
      go_wp2_with fail
      refine (HO.out _ (by omega)).mono ?_
      rintro e w1 ⟨rfl, hb1⟩
      have hbR := hbR.below hb1
      have hb0 := below_trans hb0 hb1
      clear hb1
      go_wp2_with fail
      refine (HT.out _ (by omega)).mono ?_
      rintro e w2 ⟨er, her, rfl, hb2⟩
      have hba := below_alloc1 w2 (.cells #[.string { data := #[] }, .int .i64 0, .int .i64 0, .int .i64 0, .int .i64 0, .int .i64 0, .slice none 0 0, .slice none 0 0] 25)
      have hbR := (hbR.below hb2).below hba
      have hb0 := below_trans (below_trans hb0 hb2) hba
      obtain ⟨w5, hw5⟩ : ∃ w5, w5 = w2.alloc (.cells #[.string { data := #[] }, .int .i64 0, .int .i64 0, .int .i64 0, .int .i64 0, .int .i64 0, .slice none 0 0, .slice none 0 0] 25) := ⟨_, rfl⟩
      rw [← hw5] at hbR hb0
      have HW := Lib.hid hw5
      have he1 : ((er : Int) == 0) = false := by rw [beq_eq_false_iff_ne]; omega
      have he2 : ((er : Int) != 0) = true := by rw [bne_iff_ne]; omega
      have HER := Lib.hid her
      clear hba hb2 her
      go_upto_region 5 with fail
      rw [← HW.out]
      have r0 : w5.cell? ⟨w.heap.size, 0, none⟩ = some (.string { data := #[] }) := hbR.cell (i := 0) rfl
      have q0 := hbR.free 0
      have r1 : w5.cell? ⟨w.heap.size, 1, none⟩ = some (.int .i64 0) := hbR.cell (i := 1) rfl
      have q1 := hbR.free 1
      have r2 : w5.cell? ⟨w.heap.size, 2, none⟩ = some (.int .i64 0) := hbR.cell (i := 2) rfl
      have q2 := hbR.free 2
      have r3 : w5.cell? ⟨w.heap.size, 3, none⟩ = some (.int .i64 0) := hbR.cell (i := 3) rfl
      have q3 := hbR.free 3
      have r4 : w5.cell? ⟨w.heap.size, 4, none⟩ = some (.int .i64 0) := hbR.cell (i := 4) rfl
      have q4 := hbR.free 4
      have r5 : w5.cell? ⟨w.heap.size, 5, none⟩ = some (.int .i64 0) := hbR.cell (i := 5) rfl
      have q5 := hbR.free 5
      have r6 : w5.cell? ⟨w.heap.size, 6, none⟩ = some (.slice none 0 0) := hbR.cell (i := 6) rfl
      have q6 := hbR.free 6
      have r7 : w5.cell? ⟨w.heap.size, 7, none⟩ = some (.slice none 0 0) := hbR.cell (i := 7) rfl
      have q7 := hbR.free 7
      have HG := Lib.hid (frR_set (frR_set (frR_set (frR_set (frR_set (frR_set (frR_set (frR_set (Fr.refl (fun k _ => k = w.heap.size) w5) 0 (.string { data := #[] })) 1 (.int .i64 0)) 2 (.int .i64 0)) 3 (.int .i64 0)) 4 (.int .i64 0)) 5 (.int .i64 0)) 6 (.slice none 0 0)) 7 (.slice none 0 0))
      have HB := Lib.hid hb0
      clear hbR hb0 hw5
      go_wp2_with fail
      refine bodyPost_ret (v := .tuple #[.agg #[.string { data := #[] }, .int .i64 0, .int .i64 0, .int .i64 0, .int .i64 0, .int .i64 0, .slice none 0 0, .slice none 0 0], .int .i64 er]) (by simp [results, Try.results23, go_sem, r0, r1, r2, r3, r4, r5, r6, r7]) rfl ?_
      exact ⟨er, HER.out, rfl, HB.out.trans (Fr.below HG.out HB.out.size (fun k i hk h => by have h : k = w.heap.size := h; omega))⟩
  · have he2 : ((er : Int) != 0) = true := by rw [bne_iff_ne]; omega
    have HER := Lib.hid her
    clear her hd h
    go_enter Try.func23, Try.ntmps23
    go_wp2_with fail
    refine (HO.out _ (by omega)).mono ?_
    rintro e w5 ⟨rfl, hb1⟩
    have hbR := hbR.below hb1
    have hb0 := below_trans hb0 hb1
    clear hb1
    have r0 : w5.cell? ⟨w.heap.size, 0, none⟩ = some (.string { data := #[] }) := hbR.cell (i := 0) rfl
    have q0 := hbR.free 0
    have r1 : w5.cell? ⟨w.heap.size, 1, none⟩ = some (.int .i64 0) := hbR.cell (i := 1) rfl
    have q1 := hbR.free 1
    have r2 : w5.cell? ⟨w.heap.size, 2, none⟩ = some (.int .i64 0) := hbR.cell (i := 2) rfl
    have q2 := hbR.free 2
    have r3 : w5.cell? ⟨w.heap.size, 3, none⟩ = some (.int .i64 0) := hbR.cell (i := 3) rfl
    have q3 := hbR.free 3
    have r4 : w5.cell? ⟨w.heap.size, 4, none⟩ = some (.int .i64 0) := hbR.cell (i := 4) rfl
    have q4 := hbR.free 4
    have r5 : w5.cell? ⟨w.heap.size, 5, none⟩ = some (.int .i64 0) := hbR.cell (i := 5) rfl
    have q5 := hbR.free 5
    have r6 : w5.cell? ⟨w.heap.size, 6, none⟩ = some (.slice none 0 0) := hbR.cell (i := 6) rfl
    have q6 := hbR.free 6
    have r7 : w5.cell? ⟨w.heap.size, 7, none⟩ = some (.slice none 0 0) := hbR.cell (i := 7) rfl
    have q7 := hbR.free 7
    have HG := Lib.hid (frR_set (frR_set (frR_set (frR_set (frR_set (frR_set (frR_set (frR_set (Fr.refl (fun k _ => k = w.heap.size) w5) 0 (.string { data := #[] })) 1 (.int .i64 0)) 2 (.int .i64 0)) 3 (.int .i64 0)) 4 (.int .i64 0)) 5 (.int .i64 0)) 6 (.slice none 0 0)) 7 (.slice none 0 0))
    have HB := Lib.hid hb0
    clear hbR hb0
    go_wp2_with fail
    refine bodyPost_ret (v := .tuple #[.agg #[.string { data := #[] }, .int .i64 0, .int .i64 0, .int .i64 0, .int .i64 0, .int .i64 0, .slice none 0 0, .slice none 0 0], .int .i64 er]) (by simp [results, Try.results23, go_sem, r0, r1, r2, r3, r4, r5, r6, r7]) rfl ?_
    exact ⟨er, HER.out, rfl, HB.out.trans (Fr.below HG.out HB.out.size (fun k i hk h => by have h : k = w.heap.size := h; omega))⟩

theorem mark_len (id : List UInt8) (n : Nat) (hi : id.length = 16) (hn : n < 128) : (markB id n).length = 24 := by
  have hw : w64 (max (n : Int) 0) = n := by rw [show max (n : Int) 0 = n by omega, w64_nat n (by omega)]
  have h1 : (markF id n).length = 18 := by
    unfold markF txt
    rw [hw, hi, u_lt (by omega), u_lt hn]
    simp [hi]
  unfold markB
  rw [rec_len]
  simp only [h1]
  rw [u_lt (by omega)]
  rfl

set_option maxHeartbeats 1000000 in
set_option maxRecDepth 10000 in
theorem awake9_any (w : World) : Calls Try.prog 9 #[] w (RetBelow w (.bool true)) := by
  have hm := make_ok 33 1
  rw [show (33 : Int).toNat = 33 from rfl, show (1 : Int).toNat = 1 from rfl] at hm
  obtain ⟨id, hid⟩ : ∃ id, id = mk 33 1 := ⟨_, rfl⟩
  have hidl : id.length = 16 := by rw [hid, mk_length]
  have hok : idOk id = true := by rw [hid]; exact idOk_mk 33 1 (by decide) (by decide)
  have hd := decodeMark_mark id 7 hok (by omega)
  have hml := mark_len id 7 hidl (by omega)
  rw [← hid] at hm
  obtain ⟨s, hs⟩ : ∃ s, s = markB id ((7 : Nat) : Int) := ⟨_, rfl⟩
  have he : ∀ w, Calls Try.prog 25 #[.string (bs id), .int .i64 7] w (RetBelow w (.string (bs s))) := fun w => by
    rw [hs]; exact encodeMark_any id 7 w (by omega) (by omega) (by omega)
  rw [← hs] at hd hml
  have hdm : ∀ w, Calls Try.prog 24 #[.string (bs s)] w (RetBelow w (.tuple #[.string (bs id), .int .i64 7, .int .i64 0])) := fun w => by
    have := decodeMark_any s w (by omega)
    rw [hd] at this
    exact this
  have HM := Lib.hid hm
  have HE := Lib.hid he
  have HD := Lib.hid hdm
  have hb1 : ((s.length : Int) == 24) = true := by rw [hml]; rfl
  have hb2 : ((id.length : Int) == 16) = true := by rw [hidl]; rfl
  clear hm he hdm hd hml hidl hok hs hid
  go_enter Try.func9, Try.ntmps9
  go_wp2_with fail
  refine (HM.out _ ⟨by omega, by omega⟩ ⟨by omega, by omega⟩).mono ?_
  rintro e w1 ⟨rfl, h1⟩
  go_wp2_with fail
  refine (HE.out _).mono ?_
  rintro e w2 ⟨rfl, h2⟩
  go_wp2_with fail
  refine (HD.out _).mono ?_
  rintro e w3 ⟨rfl, h3⟩
  go_wp2_with fail
  go_ret
  exact ⟨rfl, below_trans (below_trans h1 h2) h3⟩

end Go.Proofs.Ytdmhjejjgcfplaa
