/-
  Layer 9: the walks of Take and Decode.
-/
import Derived.Test.YtdmhjejjgcfplaaMetU
import Derived.Test.YtdmhjejjgcfplaaMetC
namespace Go.Proofs.Ytdmhjejjgcfplaa
open Go.RowKit Go.Bar Go.Bar.Leb Go.Bar.Frm Go.Bar.Idt Go.Bar.Met

/-- a meta that was taken, and what goes with it -/
def RetMeta (w : World) (m : Mt) (r : List UInt8) (en : Ending) (w' : World) : Prop :=
  ∃ fv sv, en = .returned (.tuple #[.agg #[.string (bs m.id), .int .i64 m.mn, .int .i64 m.mx, .int .i64 m.lv, .int .i64 m.sr, .int .i64 m.sm, fv, sv], .string (bs r), .int .i64 0]) ∧ FBuf w w' 45 3 fv m.fs.length (fcs m.fs) ∧ FBuf w w' 9 1 sv m.ss.length (scs m.ss) ∧ Below w.heap.size w w'
/-- none was taken -/
def RetNoMeta (w : World) (en : Ending) (w' : World) : Prop :=
  ∃ e : Nat, e ≠ 0 ∧ en = .returned (.tuple #[.agg #[.string { data := #[] }, .int .i64 0, .int .i64 0, .int .i64 0, .int .i64 0, .int .i64 0, .slice none 0 0, .slice none 0 0], .string (bs []), .int .i64 e]) ∧ Below w.heap.size w w'

/-- blocks B and B + 1 may have turned -/
def S2 (B : Nat) : Nat → Nat → Prop := fun k _ => k = B ∨ k = B + 1
theorem frB_set {w w' : World} {B : Nat} (h : Fr (S2 B) w w') {k : Nat} (hk : k = B ∨ k = B + 1) (i : Nat) (v : Value) : Fr (S2 B) w (w'.setCell ⟨k, i, none⟩ v) := Fr.setCell h (fun _ => hk) v
theorem S2.far {B : Nat} : ∀ k i, B + 2 ≤ k → ¬ S2 B k i := fun k i hk h => by rcases h with h | h <;> omega
theorem S2.below {B : Nat} : ∀ k i, k < B → ¬ S2 B k i := fun k i hk h => by rcases h with h | h <;> omega

theorem tSrc_len : ∀ (n : Nat) (s r : List UInt8) (e e' : Nat) (ss : List (List UInt8)), tSrc n s e = (ss, r, e') → (∀ x ∈ ss, x.length ≤ s.length)
  | 0, s, r, e, e', ss, h => by
    simp only [tSrc, Prod.mk.injEq] at h
    obtain ⟨rfl, _, _⟩ := h
    simp
  | n + 1, s, r, e, e', ss, h => by
    rw [tSrc] at h
    split at h
    · simp only [Prod.mk.injEq] at h
      obtain ⟨rfl, _, _⟩ := h
      simp
    · obtain ⟨a, s1, e1, h1⟩ : ∃ a b c, tText 16 s e = (a, b, c) := ⟨_, _, _, rfl⟩
      obtain ⟨ss', s2, e2, h2⟩ : ∃ a b c, tSrc n s1 e1 = (a, b, c) := ⟨_, _, _, rfl⟩
      rw [h1] at h
      simp only [h2, Prod.mk.injEq] at h
      obtain ⟨rfl, _, _⟩ := h
      have hl := tText_len h1 (by omega)
      have ih := tSrc_len n _ _ _ _ _ h2
      intro x hx
      rcases List.mem_cons.1 hx with rfl | hx
      · exact hl.1
      · have := ih x hx; omega
theorem tFields_src {l r : List UInt8} {m : Mt} {e : Nat} (h : tFields l 0 = (m, r, e)) : m.id.length ≤ l.length ∧ ∀ s ∈ m.ss, s.length ≤ l.length := by
  unfold tFields at h
  obtain ⟨id, s1, e1, h1⟩ : ∃ a b c, tText 16 l 0 = (a, b, c) := ⟨_, _, _, rfl⟩
  rw [h1] at h
  simp only at h
  obtain ⟨mn, s2, e2, h2⟩ : ∃ a b c, tNum 1099511627776 s1 e1 = (a, b, c) := ⟨_, _, _, rfl⟩
  rw [h2] at h
  simp only at h
  obtain ⟨mx, s3, e3, h3⟩ : ∃ a b c, tNum 1099511627776 s2 e2 = (a, b, c) := ⟨_, _, _, rfl⟩
  rw [h3] at h
  simp only at h
  obtain ⟨lv, s4, e4, h4⟩ : ∃ a b c, tNum 9 s3 e3 = (a, b, c) := ⟨_, _, _, rfl⟩
  rw [h4] at h
  simp only at h
  obtain ⟨sr, s5, e5, h5⟩ : ∃ a b c, tNum 1073741824 s4 e4 = (a, b, c) := ⟨_, _, _, rfl⟩
  rw [h5] at h
  simp only at h
  obtain ⟨sm, s6, e6, h6⟩ : ∃ a b c, tNum 1073741824 s5 e5 = (a, b, c) := ⟨_, _, _, rfl⟩
  rw [h6] at h
  simp only at h
  have hF : ∀ {s : List UInt8} {e : Nat} {f : Fl} {r : List UInt8} {e' : Nat}, tFile s e = (f, r, e') → r.length ≤ s.length := fun {s e f r e'} h => by
    unfold tFile at h
    obtain ⟨nm, sA, eA, g1⟩ : ∃ a b c, tText 40 s e = (a, b, c) := ⟨_, _, _, rfl⟩
    rw [g1] at h
    simp only at h
    obtain ⟨sz, sB, eB, g2⟩ : ∃ a b c, tNum 1048576 sA eA = (a, b, c) := ⟨_, _, _, rfl⟩
    rw [g2] at h
    simp only at h
    obtain ⟨su, sC, eC, g3⟩ : ∃ a b c, tNum 4294967295 sB eB = (a, b, c) := ⟨_, _, _, rfl⟩
    rw [g3] at h
    simp only [Prod.mk.injEq] at h
    obtain ⟨_, rfl, _⟩ := h
    have a1 := (tText_len g1 (by omega)).2
    have a2 := tNum_len g2 (by omega)
    have a3 := tNum_len g3 (by omega)
    omega
  obtain ⟨f1, s7, e7, h7⟩ : ∃ a b c, tFile s6 e6 = (a, b, c) := ⟨_, _, _, rfl⟩
  rw [h7] at h
  simp only at h
  obtain ⟨f2, s8, e8, h8⟩ : ∃ a b c, tFile s7 e7 = (a, b, c) := ⟨_, _, _, rfl⟩
  rw [h8] at h
  simp only at h
  obtain ⟨n, s9, e9, h9⟩ : ∃ a b c, tNum 50 s8 e8 = (a, b, c) := ⟨_, _, _, rfl⟩
  rw [h9] at h
  simp only at h
  obtain ⟨ss, s10, e10, h10⟩ : ∃ a b c, tSrc n s9 e9 = (a, b, c) := ⟨_, _, _, rfl⟩
  rw [h10] at h
  simp only [Prod.mk.injEq] at h
  obtain ⟨rfl, _, _⟩ := h
  have a1 := tText_len h1 (by omega)
  have a2 := tNum_len h2 (by omega)
  have a3 := tNum_len h3 (by omega)
  have a4 := tNum_len h4 (by omega)
  have a5 := tNum_len h5 (by omega)
  have a6 := tNum_len h6 (by omega)
  have a7 := hF h7
  have a8 := hF h8
  have a9 := tNum_len h9 (by omega)
  have a10 := tSrc_len _ _ _ _ _ _ h10
  exact ⟨a1.1, fun x hx => by have := a10 x hx; omega⟩

set_option maxHeartbeats 4000000 in
set_option maxRecDepth 10000 in
theorem take_good {l r : List UInt8} {m : Mt} (h : tFields l 0 = (m, r, 0)) (hok : Ok m) (w : World) (hl : l.length ≤ 100000000000) :
    Calls Try.prog 26 #[.string (bs l)] w (RetMeta w m r) := by
  have T := Lib.hid (tfields_of h)
  have hid := idOk_len hok.1.1
  have hsl : ∀ s ∈ m.ss, s.length ≤ 1000000000000 := fun s hs => by have := hok.src s hs; omega
  have hch : ∀ fv sv w, FlsAt w fv m.fs → SrcAt w sv m.ss → Calls Try.prog 14 #[.agg #[.string (bs m.id), .int .i64 m.mn, .int .i64 m.mx, .int .i64 m.lv, .int .i64 m.sr, .int .i64 m.sm, fv, sv]] w (RetBelow w (.int .i64 0)) := fun fv sv w hf hs => by
    have := mcheck_any m fv sv w hf hs (by omega) hsl
    rwa [chk_ok hok] at this
  have HC := Lib.hid hch
  clear h hch hsl hid hok
  go_enter Try.func26, Try.ntmps26
  go_wp2_with fail
  have hk := TkAt.box (w.alloc (.cells #[.string { data := #[] }, .int .i64 0, .int .i64 0, .int .i64 0, .int .i64 0, .int .i64 0, .slice none 0 0, .slice none 0 0] 25)) 75 l 0
  have hbR := (Blk.new w #[.string { data := #[] }, .int .i64 0, .int .i64 0, .int .i64 0, .int .i64 0, .int .i64 0, .slice none 0 0, .slice none 0 0] 25).alloc (.cells #[.string (bs l), .int .i64 0] 75)
  have hb0 : Below w.heap.size w ((w.alloc (.cells #[.string { data := #[] }, .int .i64 0, .int .i64 0, .int .i64 0, .int .i64 0, .int .i64 0, .slice none 0 0, .slice none 0 0] 25)).alloc (.cells #[.string (bs l), .int .i64 0] 75)) := below_trans (below_alloc1 _ _) (below_alloc1 _ _)
  have hsz : ((w.alloc (.cells #[.string { data := #[] }, .int .i64 0, .int .i64 0, .int .i64 0, .int .i64 0, .int .i64 0, .slice none 0 0, .slice none 0 0] 25)).alloc (.cells #[.string (bs l), .int .i64 0] 75)).heap.size = w.heap.size + 2 := by simp
  rw [show (w.alloc (.cells #[.string { data := #[] }, .int .i64 0, .int .i64 0, .int .i64 0, .int .i64 0, .int .i64 0, .slice none 0 0, .slice none 0 0] 25)).heap.size = w.heap.size + 1 by simp] at hk
  obtain ⟨WS, hWS⟩ : ∃ WS, WS = (w.alloc (.cells #[.string { data := #[] }, .int .i64 0, .int .i64 0, .int .i64 0, .int .i64 0, .int .i64 0, .slice none 0 0, .slice none 0 0] 25)).alloc (.cells #[.string (bs l), .int .i64 0] 75) := ⟨_, rfl⟩
  have hk : TkAt WS (w.heap.size + 1) l 0 := by rw [hWS]; exact hk
  rw [← hWS] at hbR hb0 hsz
  have HW := Lib.hid hWS
  have HSZ := Lib.hid hsz
  clear hsz
  refine (T.out (w.heap.size + 1) _ (by rw [← hWS]; exact hk) (by omega)).mono ?_
  rw [← hWS]
  clear hWS
  rintro e w2 ⟨fv, sv, rfl, k2, fr2, hf2, hs2⟩
  obtain ⟨A, c, rfl, hlc⟩ := hf2.buf.shape
  obtain ⟨A2, c2, rfl, hlc2⟩ := hs2.buf.shape
  have hR2 := hbR.fr fr2 (fun i hi => by omega)
  have G2 : Fr (S2 w.heap.size) WS w2 := Fr.mono fr2 (fun k i hk hi => .inr hi)
  have HG := Lib.hid G2
  have HF := Lib.hid hf2
  have HS := Lib.hid hs2
  have HB := Lib.hid hb0
  have HK := Lib.hid k2
  have HR := Lib.hid hR2
  have c1 : ∀ o, (w2.alloc o).cell? ⟨w.heap.size + 1, 1, none⟩ = some (.int .i64 0) := fun o => (k2.below (below_alloc1 _ o)).c1
  clear k2 fr2 hf2 hs2 hbR hb0 G2 hk hR2
  go_wp2_with fail
  have hba := below_alloc1 w2 (.cells #[.string (bs m.id), .int .i64 m.mn, .int .i64 m.mx, .int .i64 m.lv, .int .i64 m.sr, .int .i64 m.sm, .slice A m.fs.length c, .slice A2 m.ss.length c2] 25)
  refine (HC.out _ _ _ (FlsAt.below HF.out.slice hba) (SrcAt.below HS.out.slice hba)).mono ?_
  rintro e w4 ⟨rfl, hb4⟩
  have hb24 := below_trans hba hb4
  have hM4 := (Blk.new w2 #[.string (bs m.id), .int .i64 m.mn, .int .i64 m.mx, .int .i64 m.lv, .int .i64 m.sr, .int .i64 m.sm, .slice A m.fs.length c, .slice A2 m.ss.length c2] 25).below hb4
  have hR4 := HR.out.below hb24
  have k4 := HK.out.below hb24
  have G4 := HG.out.then_below hb24
  have HF := Lib.hid (HF.out.below hb24)
  have HS := Lib.hid (HS.out.below hb24)
  clear c1 hba hb4 hb24
  have c1 : w4.cell? ⟨w.heap.size + 1, 1, none⟩ = some (.int .i64 0) := k4.c1
  have d1 := k4.f1
  have hlt := hM4.lt
  have hne : w2.heap.size ≠ w.heap.size + 1 := by
    have h1 := World.block_lt_of_cell? _ _ HK.out.c0
    simp only at h1
    omega
  go_wp2_with fail
  have c0 : (w4.setCell ⟨w.heap.size + 1, 1, none⟩ (.int .i64 0)).cell? ⟨w.heap.size + 1, 0, none⟩ = some (.string (bs r)) := (World.cell?_setCell_other w4 _ _ _ (by simp)).trans k4.c0
  have hM5 := hM4.other hne 1 (.int .i64 0)
  have hR5 := hR4.other (show w.heap.size ≠ w.heap.size + 1 by omega) 1 (.int .i64 0)
  have G5 := frB_set G4 (.inr rfl) 1 (.int .i64 0)
  have hRB : w.heap.size = w.heap.size ∨ w.heap.size = w.heap.size + 1 := .inl rfl
  obtain ⟨w5, hw5⟩ : ∃ w5, w5 = w4.setCell ⟨w.heap.size + 1, 1, none⟩ (.int .i64 0) := ⟨_, rfl⟩
  rw [← hw5] at c0 hM5 hR5 G5 ⊢
  have HF := Lib.hid (HF.out.fr (frB_set (Fr.refl (S2 w.heap.size) w4) (.inr rfl) 1 (.int .i64 0)) (by rw [HSZ.out]; exact S2.far))
  have HS := Lib.hid (HS.out.fr (frB_set (Fr.refl (S2 w.heap.size) w4) (.inr rfl) 1 (.int .i64 0)) (by rw [HSZ.out]; exact S2.far))
  rw [← hw5] at HF HS
  have hlt5 := hM5.lt
  clear c1 d1 hlt hM4 hR4 k4 G4 hw5
  have r0 : w5.cell? ⟨w.heap.size, 0, none⟩ = some (.string { data := #[] }) := hR5.cell (i := 0) rfl
  have q0 := hR5.free 0
  have r1 : w5.cell? ⟨w.heap.size, 1, none⟩ = some (.int .i64 0) := hR5.cell (i := 1) rfl
  have q1 := hR5.free 1
  have r2 : w5.cell? ⟨w.heap.size, 2, none⟩ = some (.int .i64 0) := hR5.cell (i := 2) rfl
  have q2 := hR5.free 2
  have r3 : w5.cell? ⟨w.heap.size, 3, none⟩ = some (.int .i64 0) := hR5.cell (i := 3) rfl
  have q3 := hR5.free 3
  have r4 : w5.cell? ⟨w.heap.size, 4, none⟩ = some (.int .i64 0) := hR5.cell (i := 4) rfl
  have q4 := hR5.free 4
  have r5 : w5.cell? ⟨w.heap.size, 5, none⟩ = some (.int .i64 0) := hR5.cell (i := 5) rfl
  have q5 := hR5.free 5
  have r6 : w5.cell? ⟨w.heap.size, 6, none⟩ = some (.slice none 0 0) := hR5.cell (i := 6) rfl
  have q6 := hR5.free 6
  have r7 : w5.cell? ⟨w.heap.size, 7, none⟩ = some (.slice none 0 0) := hR5.cell (i := 7) rfl
  have q7 := hR5.free 7
  have m0 : w5.cell? ⟨w2.heap.size, 0, none⟩ = some (.string (bs m.id)) := hM5.cell (i := 0) rfl
  have m1 : w5.cell? ⟨w2.heap.size, 1, none⟩ = some (.int .i64 m.mn) := hM5.cell (i := 1) rfl
  have m2 : w5.cell? ⟨w2.heap.size, 2, none⟩ = some (.int .i64 m.mx) := hM5.cell (i := 2) rfl
  have m3 : w5.cell? ⟨w2.heap.size, 3, none⟩ = some (.int .i64 m.lv) := hM5.cell (i := 3) rfl
  have m4 : w5.cell? ⟨w2.heap.size, 4, none⟩ = some (.int .i64 m.sr) := hM5.cell (i := 4) rfl
  have m5 : w5.cell? ⟨w2.heap.size, 5, none⟩ = some (.int .i64 m.sm) := hM5.cell (i := 5) rfl
  have m6 : w5.cell? ⟨w2.heap.size, 6, none⟩ = some (.slice A m.fs.length c) := hM5.cell (i := 6) rfl
  have m7 : w5.cell? ⟨w2.heap.size, 7, none⟩ = some (.slice A2 m.ss.length c2) := hM5.cell (i := 7) rfl
  have hne3 : w2.heap.size ≠ w.heap.size := by
    have h1 := World.block_lt_of_cell? _ _ HK.out.c0
    simp only at h1
    omega
  have HG5 := Lib.hid (Fr.drew <| frB_set (frB_set (frB_set (frB_set (frB_set (frB_set (frB_set (frB_set G5 hRB 0 (.string (bs m.id))) hRB 1 (.int .i64 m.mn)) hRB 2 (.int .i64 m.mx)) hRB 3 (.int .i64 m.lv)) hRB 4 (.int .i64 m.sr)) hRB 5 (.int .i64 m.sm)) hRB 6 (.slice A m.fs.length c)) hRB 7 (.slice A2 m.ss.length c2))
  have HGE := Lib.hid (Fr.drew <| frB_set (frB_set (frB_set (frB_set (frB_set (frB_set (frB_set (frB_set (Fr.refl (S2 w.heap.size) w5) hRB 0 (.string (bs m.id))) hRB 1 (.int .i64 m.mn)) hRB 2 (.int .i64 m.mx)) hRB 3 (.int .i64 m.lv)) hRB 4 (.int .i64 m.sr)) hRB 5 (.int .i64 m.sm)) hRB 6 (.slice A m.fs.length c)) hRB 7 (.slice A2 m.ss.length c2))
  clear hM5 hR5 G5
  go_wp2_with fail
  go_region
  all_goals go_wp2_with fail
  all_goals refine bodyPost_ret (v := .tuple #[.agg #[.string (bs m.id), .int .i64 m.mn, .int .i64 m.mx, .int .i64 m.lv, .int .i64 m.sr, .int .i64 m.sm, .slice A m.fs.length c, .slice A2 m.ss.length c2], .string (bs r), .int .i64 0]) (by simp [results, Try.results26, go_sem, r0, r1, r2, r3, r4, r5, r6, r7]) rfl ?_
  all_goals exact ⟨_, _, rfl, (HF.out.fr HGE.out (by rw [HSZ.out]; exact S2.far)).older HB.out.size, (HS.out.fr HGE.out (by rw [HSZ.out]; exact S2.far)).older HB.out.size, HB.out.trans (Fr.below HG5.out HB.out.size S2.below)⟩

set_option maxHeartbeats 4000000 in
set_option maxRecDepth 10000 in
theorem take_err {l r : List UInt8} {m : Mt} {er : Nat} (h : tFields l 0 = (m, r, er)) (her : er ≠ 0) (w : World) (hl : l.length ≤ 100000000000) :
    Calls Try.prog 26 #[.string (bs l)] w (RetNoMeta w) := by
  have T := Lib.hid (tfields_of h)
  have he1 : ((er : Int) == 0) = false := by rw [beq_eq_false_iff_ne]; omega
  have he2 : ((er : Int) != 0) = true := by rw [bne_iff_ne]; omega
  clear h
  have HER := Lib.hid her
  clear her
  go_enter Try.func26, Try.ntmps26
  go_wp2_with fail
  have hk := TkAt.box (w.alloc (.cells #[.string { data := #[] }, .int .i64 0, .int .i64 0, .int .i64 0, .int .i64 0, .int .i64 0, .slice none 0 0, .slice none 0 0] 25)) 75 l 0
  have hbR := (Blk.new w #[.string { data := #[] }, .int .i64 0, .int .i64 0, .int .i64 0, .int .i64 0, .int .i64 0, .slice none 0 0, .slice none 0 0] 25).alloc (.cells #[.string (bs l), .int .i64 0] 75)
  have hb0 : Below w.heap.size w ((w.alloc (.cells #[.string { data := #[] }, .int .i64 0, .int .i64 0, .int .i64 0, .int .i64 0, .int .i64 0, .slice none 0 0, .slice none 0 0] 25)).alloc (.cells #[.string (bs l), .int .i64 0] 75)) := below_trans (below_alloc1 _ _) (below_alloc1 _ _)
  have hsz : ((w.alloc (.cells #[.string { data := #[] }, .int .i64 0, .int .i64 0, .int .i64 0, .int .i64 0, .int .i64 0, .slice none 0 0, .slice none 0 0] 25)).alloc (.cells #[.string (bs l), .int .i64 0] 75)).heap.size = w.heap.size + 2 := by simp
  rw [show (w.alloc (.cells #[.string { data := #[] }, .int .i64 0, .int .i64 0, .int .i64 0, .int .i64 0, .int .i64 0, .slice none 0 0, .slice none 0 0] 25)).heap.size = w.heap.size + 1 by simp] at hk
  obtain ⟨WS, hWS⟩ : ∃ WS, WS = (w.alloc (.cells #[.string { data := #[] }, .int .i64 0, .int .i64 0, .int .i64 0, .int .i64 0, .int .i64 0, .slice none 0 0, .slice none 0 0] 25)).alloc (.cells #[.string (bs l), .int .i64 0] 75) := ⟨_, rfl⟩
  have hk : TkAt WS (w.heap.size + 1) l 0 := by rw [hWS]; exact hk
  rw [← hWS] at hbR hb0 hsz
  have HW := Lib.hid hWS
  have HSZ := Lib.hid hsz
  clear hsz
  refine (T.out (w.heap.size + 1) _ (by rw [← hWS]; exact hk) (by omega)).mono ?_
  rw [← hWS]
  clear hWS
  rintro e w2 ⟨fv, sv, rfl, k2, fr2, hf2, hs2⟩
  obtain ⟨A, c, rfl, hlc⟩ := hf2.buf.shape
  obtain ⟨A2, c2, rfl, hlc2⟩ := hs2.buf.shape
  have G2 : Fr (S2 w.heap.size) WS w2 := Fr.mono fr2 (fun k i hk hi => .inr hi)
  have hR2 := hbR.fr fr2 (fun i hi => by omega)
  have c1o : ∀ o, (w2.alloc o).cell? ⟨w.heap.size + 1, 1, none⟩ = some (.int .i64 er) := fun o => (k2.below (below_alloc1 _ o)).c1
  go_wp2_with fail
  clear c1o
  obtain ⟨w5, hw5⟩ : ∃ w5, w5 = w2.alloc (.cells #[.string (bs m.id), .int .i64 m.mn, .int .i64 m.mx, .int .i64 m.lv, .int .i64 m.sr, .int .i64 m.sm, .slice A m.fs.length c, .slice A2 m.ss.length c2] 25) := ⟨_, rfl⟩
  have hba : Below w2.heap.size w2 w5 := by rw [hw5]; exact below_alloc1 _ _
  rw [← hw5]
  clear hw5
  have c1 := (k2.below hba).c1
  have G5 := G2.then_below hba
  have hR5 := hR2.below hba
  have hRB : w.heap.size = w.heap.size ∨ w.heap.size = w.heap.size + 1 := .inl rfl
  have HB := Lib.hid hb0
  have r0 : w5.cell? ⟨w.heap.size, 0, none⟩ = some (.string { data := #[] }) := hR5.cell (i := 0) rfl
  have q0 := hR5.free 0
  have r1 : w5.cell? ⟨w.heap.size, 1, none⟩ = some (.int .i64 0) := hR5.cell (i := 1) rfl
  have q1 := hR5.free 1
  have r2 : w5.cell? ⟨w.heap.size, 2, none⟩ = some (.int .i64 0) := hR5.cell (i := 2) rfl
  have q2 := hR5.free 2
  have r3 : w5.cell? ⟨w.heap.size, 3, none⟩ = some (.int .i64 0) := hR5.cell (i := 3) rfl
  have q3 := hR5.free 3
  have r4 : w5.cell? ⟨w.heap.size, 4, none⟩ = some (.int .i64 0) := hR5.cell (i := 4) rfl
  have q4 := hR5.free 4
  have r5 : w5.cell? ⟨w.heap.size, 5, none⟩ = some (.int .i64 0) := hR5.cell (i := 5) rfl
  have q5 := hR5.free 5
  have r6 : w5.cell? ⟨w.heap.size, 6, none⟩ = some (.slice none 0 0) := hR5.cell (i := 6) rfl
  have q6 := hR5.free 6
  have r7 : w5.cell? ⟨w.heap.size, 7, none⟩ = some (.slice none 0 0) := hR5.cell (i := 7) rfl
  have q7 := hR5.free 7
  have HG5 := Lib.hid (Fr.drew <| (frB_set (frB_set (frB_set (frB_set (frB_set (frB_set (frB_set (frB_set G5 hRB 0 (.string { data := #[] })) hRB 1 (.int .i64 0)) hRB 2 (.int .i64 0)) hRB 3 (.int .i64 0)) hRB 4 (.int .i64 0)) hRB 5 (.int .i64 0)) hRB 6 (.slice none 0 0)) hRB 7 (.slice none 0 0)))
  clear hR5 G5 hf2 hs2 hR2 hbR hb0 G2 hk fr2 hba k2
  go_region
  all_goals go_wp2_with fail
  all_goals refine bodyPost_ret (v := .tuple #[.agg #[.string { data := #[] }, .int .i64 0, .int .i64 0, .int .i64 0, .int .i64 0, .int .i64 0, .slice none 0 0, .slice none 0 0], .string { data := #[] }, .int .i64 er]) (by simp [results, Try.results26, go_sem, r0, r1, r2, r3, r4, r5, r6, r7]) rfl ?_
  all_goals exact ⟨_, HER.out, rfl, HB.out.trans (Fr.below HG5.out HB.out.size S2.below)⟩

set_option maxHeartbeats 4000000 in
set_option maxRecDepth 10000 in
theorem take_sour {l r : List UInt8} {m : Mt} (h : tFields l 0 = (m, r, 0)) (hok : ¬ Ok m) (w : World) (hl : l.length ≤ 100000000000) :
    Calls Try.prog 26 #[.string (bs l)] w (RetNoMeta w) := by
  have T := Lib.hid (tfields_of h)
  obtain ⟨hid, hsl0⟩ := tFields_src h
  have hsl : ∀ s ∈ m.ss, s.length ≤ 1000000000000 := fun s hs => by have := hsl0 s hs; omega
  have hch : ∀ fv sv w, FlsAt w fv m.fs → SrcAt w sv m.ss → Calls Try.prog 14 #[.agg #[.string (bs m.id), .int .i64 m.mn, .int .i64 m.mx, .int .i64 m.lv, .int .i64 m.sr, .int .i64 m.sm, fv, sv]] w (RetBelow w (.int .i64 3)) := fun fv sv w hf hs => by
    have := mcheck_any m fv sv w hf hs (by omega) hsl
    rwa [chk_no hok] at this
  have HC := Lib.hid hch
  clear h hch hsl hsl0 hid hok
  go_enter Try.func26, Try.ntmps26
  go_wp2_with fail
  have hk := TkAt.box (w.alloc (.cells #[.string { data := #[] }, .int .i64 0, .int .i64 0, .int .i64 0, .int .i64 0, .int .i64 0, .slice none 0 0, .slice none 0 0] 25)) 75 l 0
  have hbR := (Blk.new w #[.string { data := #[] }, .int .i64 0, .int .i64 0, .int .i64 0, .int .i64 0, .int .i64 0, .slice none 0 0, .slice none 0 0] 25).alloc (.cells #[.string (bs l), .int .i64 0] 75)
  have hb0 : Below w.heap.size w ((w.alloc (.cells #[.string { data := #[] }, .int .i64 0, .int .i64 0, .int .i64 0, .int .i64 0, .int .i64 0, .slice none 0 0, .slice none 0 0] 25)).alloc (.cells #[.string (bs l), .int .i64 0] 75)) := below_trans (below_alloc1 _ _) (below_alloc1 _ _)
  have hsz : ((w.alloc (.cells #[.string { data := #[] }, .int .i64 0, .int .i64 0, .int .i64 0, .int .i64 0, .int .i64 0, .slice none 0 0, .slice none 0 0] 25)).alloc (.cells #[.string (bs l), .int .i64 0] 75)).heap.size = w.heap.size + 2 := by simp
  rw [show (w.alloc (.cells #[.string { data := #[] }, .int .i64 0, .int .i64 0, .int .i64 0, .int .i64 0, .int .i64 0, .slice none 0 0, .slice none 0 0] 25)).heap.size = w.heap.size + 1 by simp] at hk
  obtain ⟨WS, hWS⟩ : ∃ WS, WS = (w.alloc (.cells #[.string { data := #[] }, .int .i64 0, .int .i64 0, .int .i64 0, .int .i64 0, .int .i64 0, .slice none 0 0, .slice none 0 0] 25)).alloc (.cells #[.string (bs l), .int .i64 0] 75) := ⟨_, rfl⟩
  have hk : TkAt WS (w.heap.size + 1) l 0 := by rw [hWS]; exact hk
  rw [← hWS] at hbR hb0 hsz
  have HW := Lib.hid hWS
  have HSZ := Lib.hid hsz
  clear hsz
  refine (T.out (w.heap.size + 1) _ (by rw [← hWS]; exact hk) (by omega)).mono ?_
  rw [← hWS]
  clear hWS
  rintro e w2 ⟨fv, sv, rfl, k2, fr2, hf2, hs2⟩
  obtain ⟨A, c, rfl, hlc⟩ := hf2.buf.shape
  obtain ⟨A2, c2, rfl, hlc2⟩ := hs2.buf.shape
  have hR2 := hbR.fr fr2 (fun i hi => by omega)
  have G2 : Fr (S2 w.heap.size) WS w2 := Fr.mono fr2 (fun k i hk hi => .inr hi)
  have HG := Lib.hid G2
  have HF := Lib.hid hf2
  have HS := Lib.hid hs2
  have HB := Lib.hid hb0
  have HK := Lib.hid k2
  have HR := Lib.hid hR2
  have c1 : ∀ o, (w2.alloc o).cell? ⟨w.heap.size + 1, 1, none⟩ = some (.int .i64 0) := fun o => (k2.below (below_alloc1 _ o)).c1
  clear k2 fr2 hf2 hs2 hbR hb0 G2 hk hR2
  go_wp2_with fail
  have hba := below_alloc1 w2 (.cells #[.string (bs m.id), .int .i64 m.mn, .int .i64 m.mx, .int .i64 m.lv, .int .i64 m.sr, .int .i64 m.sm, .slice A m.fs.length c, .slice A2 m.ss.length c2] 25)
  refine (HC.out _ _ _ (FlsAt.below HF.out.slice hba) (SrcAt.below HS.out.slice hba)).mono ?_
  rintro e w4 ⟨rfl, hb4⟩
  have hb24 := below_trans hba hb4
  have hM4 := (Blk.new w2 #[.string (bs m.id), .int .i64 m.mn, .int .i64 m.mx, .int .i64 m.lv, .int .i64 m.sr, .int .i64 m.sm, .slice A m.fs.length c, .slice A2 m.ss.length c2] 25).below hb4
  have hR4 := HR.out.below hb24
  have k4 := HK.out.below hb24
  have G4 := HG.out.then_below hb24
  have HF := Lib.hid (HF.out.below hb24)
  have HS := Lib.hid (HS.out.below hb24)
  clear c1 hba hb4 hb24
  have c1 : w4.cell? ⟨w.heap.size + 1, 1, none⟩ = some (.int .i64 0) := k4.c1
  have d1 := k4.f1
  have hlt := hM4.lt
  have hne : w2.heap.size ≠ w.heap.size + 1 := by
    have h1 := World.block_lt_of_cell? _ _ HK.out.c0
    simp only at h1
    omega
  go_wp2_with fail
  have hR5 := hR4.other (show w.heap.size ≠ w.heap.size + 1 by omega) 1 (.int .i64 3)
  have G5 := frB_set G4 (.inr rfl) 1 (.int .i64 3)
  have hRB : w.heap.size = w.heap.size ∨ w.heap.size = w.heap.size + 1 := .inl rfl
  have e1 : (w4.setCell ⟨w.heap.size + 1, 1, none⟩ (.int .i64 3)).cell? ⟨w.heap.size + 1, 1, none⟩ = some (.int .i64 3) := World.cell?_setCell_same w4 _ _ c1
  obtain ⟨w5, hw5⟩ : ∃ w5, w5 = w4.setCell ⟨w.heap.size + 1, 1, none⟩ (.int .i64 3) := ⟨_, rfl⟩
  rw [← hw5] at hR5 G5 e1 ⊢
  clear c1 d1 hlt hM4 hR4 k4 G4 hw5
  have r0 : w5.cell? ⟨w.heap.size, 0, none⟩ = some (.string { data := #[] }) := hR5.cell (i := 0) rfl
  have q0 := hR5.free 0
  have r1 : w5.cell? ⟨w.heap.size, 1, none⟩ = some (.int .i64 0) := hR5.cell (i := 1) rfl
  have q1 := hR5.free 1
  have r2 : w5.cell? ⟨w.heap.size, 2, none⟩ = some (.int .i64 0) := hR5.cell (i := 2) rfl
  have q2 := hR5.free 2
  have r3 : w5.cell? ⟨w.heap.size, 3, none⟩ = some (.int .i64 0) := hR5.cell (i := 3) rfl
  have q3 := hR5.free 3
  have r4 : w5.cell? ⟨w.heap.size, 4, none⟩ = some (.int .i64 0) := hR5.cell (i := 4) rfl
  have q4 := hR5.free 4
  have r5 : w5.cell? ⟨w.heap.size, 5, none⟩ = some (.int .i64 0) := hR5.cell (i := 5) rfl
  have q5 := hR5.free 5
  have r6 : w5.cell? ⟨w.heap.size, 6, none⟩ = some (.slice none 0 0) := hR5.cell (i := 6) rfl
  have q6 := hR5.free 6
  have r7 : w5.cell? ⟨w.heap.size, 7, none⟩ = some (.slice none 0 0) := hR5.cell (i := 7) rfl
  have q7 := hR5.free 7
  have HG5 := Lib.hid (Fr.drew <| (frB_set (frB_set (frB_set (frB_set (frB_set (frB_set (frB_set (frB_set G5 hRB 0 (.string { data := #[] })) hRB 1 (.int .i64 0)) hRB 2 (.int .i64 0)) hRB 3 (.int .i64 0)) hRB 4 (.int .i64 0)) hRB 5 (.int .i64 0)) hRB 6 (.slice none 0 0)) hRB 7 (.slice none 0 0)))
  clear hR5 G5
  go_region
  all_goals go_wp2_with fail
  all_goals refine bodyPost_ret (v := .tuple #[.agg #[.string { data := #[] }, .int .i64 0, .int .i64 0, .int .i64 0, .int .i64 0, .int .i64 0, .slice none 0 0, .slice none 0 0], .string { data := #[] }, .int .i64 3]) (by simp [results, Try.results26, go_sem, r0, r1, r2, r3, r4, r5, r6, r7]) rfl ?_
  all_goals exact ⟨3, by omega, rfl, HB.out.trans (Fr.below HG5.out HB.out.size S2.below)⟩

theorem take_no {l : List UInt8} (h : ∀ m r, tFields l 0 = (m, r, 0) → ¬ Ok m) (w : World) (hl : l.length ≤ 100000000000) :
    Calls Try.prog 26 #[.string (bs l)] w (RetNoMeta w) := by
  obtain ⟨m, r, e, ht⟩ : ∃ a b c, tFields l 0 = (a, b, c) := ⟨_, _, _, rfl⟩
  by_cases he : e = 0
  · subst he
    exact take_sour ht (h m r ht) w hl
  · exact take_err ht he w hl

end Go.Proofs.Ytdmhjejjgcfplaa
