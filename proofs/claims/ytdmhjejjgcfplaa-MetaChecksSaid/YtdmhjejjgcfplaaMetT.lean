/-
  Layer 9: the walks of meta's takers.
-/
import Derived.Test.YtdmhjejjgcfplaaMetF
import Derived.Handy
namespace Go.Proofs.Ytdmhjejjgcfplaa
open Go.RowKit Go.Bar Go.Bar.Leb Go.Bar.Frm Go.Bar.Idt Go.Bar.Met

/-- a taker in memory -/
structure TkAt (w : World) (b : Nat) (s : List UInt8) (e : Nat) : Prop where
  c0 : w.cell? ⟨b, 0, none⟩ = some (.string (bs s))
  c1 : w.cell? ⟨b, 1, none⟩ = some (.int .i64 e)
  f0 : w.frozen? ⟨b, 0, none⟩ = false
  f1 : w.frozen? ⟨b, 1, none⟩ = false
theorem TkAt.below {w w' : World} {b : Nat} {s : List UInt8} {e : Nat} (h : TkAt w b s e) (hb : Below w.heap.size w w') : TkAt w' b s e := by
  have hlt := World.block_lt_of_cell? _ _ h.c0
  exact ⟨(hb.cell (p := ⟨b, 0, none⟩) hlt).trans h.c0, (hb.cell (p := ⟨b, 1, none⟩) hlt).trans h.c1, (hb.frozen (p := ⟨b, 0, none⟩) hlt).trans h.f0, (hb.frozen (p := ⟨b, 1, none⟩) hlt).trans h.f1⟩
theorem TkAt.box (w : World) (T : TypeId) (s : List UInt8) (e : Nat) : TkAt (w.alloc (.cells #[.string (bs s), .int .i64 e] T)) w.heap.size s e :=
  ⟨by rw [World.cell?_alloc_new]; rfl, by rw [World.cell?_alloc_new]; rfl, by simp only [World.frozen?, heap_alloc_new]; rfl, by simp only [World.frozen?, heap_alloc_new]; rfl⟩
/-- the taker's block may have turned, and no other one -/
def TkFr (b : Nat) (w w' : World) : Prop := Fr (fun k _ => k = b) w w'
theorem TkFr.below {w0 w1 w2 : World} {b : Nat} (h : TkFr b w1 w2) (hb : Below w0.heap.size w0 w1) (hbk : w0.heap.size ≤ b) : Below w0.heap.size w0 w2 :=
  hb.trans (Fr.below h hb.size (fun k i hk hS => by subst hS; omega))
/-- what a step of a taker leaves -/
def TkStep (w : World) (b : Nat) (v : Value) (s : List UInt8) (e : Nat) (en : Ending) (w' : World) : Prop := en = .returned v ∧ TkAt w' b s e ∧ TkFr b w w'

theorem tk_store {w : World} {b : Nat} {s : List UInt8} {e : Nat} (h : TkAt w b s e) (n : Nat) (r : List UInt8) (e' : Int) (e2 : Nat) (he : e' = e2) : TkAt (((w.drewN n).setCell ⟨b, 0, none⟩ (.string (bs r))).setCell ⟨b, 1, none⟩ (.int .i64 e')) b r e2 ∧ TkFr b w (((w.drewN n).setCell ⟨b, 0, none⟩ (.string (bs r))).setCell ⟨b, 1, none⟩ (.int .i64 e')) := by
  subst he
  have h := h.below (below_draws w n)
  have hf : TkFr b w (w.drewN n) := Fr.of_below (below_draws w n)
  refine ⟨⟨?_, ?_, ?_, ?_⟩, (hf.setCell (fun _ => rfl) _).setCell (fun _ => rfl) _⟩
  · rw [World.cell?_setCell_other _ _ _ _ (by simp)]; exact World.cell?_setCell_same _ _ _ h.c0
  · exact World.cell?_setCell_same _ _ _ (u := .int .i64 e) (by rw [World.cell?_setCell_other _ _ _ _ (by simp)]; exact h.c1)
  · rw [World.frozen?_setCell, World.frozen?_setCell]; exact h.f0
  · rw [World.frozen?_setCell, World.frozen?_setCell]; exact h.f1

set_option maxHeartbeats 1000000 in
set_option maxRecDepth 10000 in
theorem ttext_of {most : Int} {s l r : List UInt8} {e e' : Nat} (ht : tText most s e = (l, r, e')) (b : Nat) (w : World) (h : TkAt w b s e) (hs : s.length ≤ 1000000000000) (hm1 : 0 ≤ most) (hm2 : most ≤ 9223372036854775807) :
    Calls Try.prog 39 #[.pointer (some ⟨b, 0, none⟩), .int .i64 most] w (TkStep w b (.string (bs l)) r e') := by
  obtain ⟨c0, c1, f0, f1⟩ := id h
  by_cases he : e ≠ 0
  · rw [tText_err most s e he] at ht
    simp only [Prod.mk.injEq] at ht
    obtain ⟨rfl, rfl, rfl⟩ := ht
    have hb : ((e : Int) != 0) = true := by rw [bne_iff_ne]; omega
    clear he
    have HH := Lib.hid h
    clear h
    go_enter Try.func39, Try.ntmps39
    go_wp2_with fail
    go_ret
    exact ⟨rfl, HH.out, Fr.refl _ _⟩
  · obtain rfl : e = 0 := by omega
    have ht' : takeText (bs s).data.toList most = (l, r, e') := by
      rw [bs_data]
      unfold tText at ht
      rwa [if_neg (by simp)] at ht
    have hc := takeText_of (bs s) most ht'
    have HC := Lib.hid hc
    have HH := Lib.hid h
    clear ht ht' hc h he
    go_enter Try.func39, Try.ntmps39
    go_wp2_with fail
    refine (HC.out _ (by rw [bs_size]; unfold maxLen; omega) (by omega) hm2).mono ?_
    rintro e w' ⟨rfl, n, rfl⟩
    go_wp2_with fail
    go_ret
    obtain ⟨h1, h2⟩ := tk_store HH.out n r e' e' rfl
    exact ⟨rfl, h1, h2⟩

set_option maxHeartbeats 1000000 in
set_option maxRecDepth 10000 in
theorem tnum_of {most : Int} {s r : List UInt8} {k e e' : Nat} (ht : tNum most s e = (k, r, e')) (b : Nat) (w : World) (h : TkAt w b s e) (hs : s.length ≤ 1000000000000) (hm1 : 0 ≤ most) (hm2 : most ≤ 9223372036854775807) :
    Calls Try.prog 40 #[.pointer (some ⟨b, 0, none⟩), .int .i64 most] w (TkStep w b (.int .i64 k) r e') := by
  obtain ⟨c0, c1, f0, f1⟩ := id h
  by_cases he : e ≠ 0
  · rw [tNum_err most s e he] at ht
    simp only [Prod.mk.injEq] at ht
    obtain ⟨rfl, rfl, rfl⟩ := ht
    have hb : ((e : Int) != 0) = true := by rw [bne_iff_ne]; omega
    clear he
    have HH := Lib.hid h
    clear h
    go_enter Try.func40, Try.ntmps40
    go_wp2_with fail
    go_ret
    exact ⟨rfl, HH.out, Fr.refl _ _⟩
  · obtain rfl : e = 0 := by omega
    have ht' : takeMost (bs s).data.toList most = (k, r, e') := by
      rw [bs_data]
      unfold tNum at ht
      rwa [if_neg (by simp)] at ht
    have hc := takeMost_of (bs s) most ht'
    have HC := Lib.hid hc
    have HH := Lib.hid h
    clear ht ht' hc h he
    go_enter Try.func40, Try.ntmps40
    go_wp2_with fail
    refine (HC.out _ (by rw [bs_size]; unfold maxLen; omega) (by omega) hm2).mono ?_
    rintro e w' ⟨rfl, n, rfl⟩
    go_wp2_with fail
    go_ret
    obtain ⟨h1, h2⟩ := tk_store HH.out n r e' e' rfl
    exact ⟨rfl, h1, h2⟩

theorem tText_len {most : Int} {s l r : List UInt8} {e e' : Nat} (h : tText most s e = (l, r, e')) (hm : most ≤ 9223372036854775807) : l.length ≤ s.length ∧ r.length ≤ s.length := by
  unfold tText at h
  split at h
  · simp only [Prod.mk.injEq] at h
    obtain ⟨rfl, rfl, rfl⟩ := h
    simp
  · have hp := takeMost_prop s most hm
    unfold takeText at h
    split at h
    · simp only [Prod.mk.injEq] at h
      obtain ⟨rfl, rfl, rfl⟩ := h
      simp
    · split at h
      · simp only [Prod.mk.injEq] at h
        obtain ⟨rfl, rfl, rfl⟩ := h
        simp
      · simp only [Prod.mk.injEq] at h
        obtain ⟨rfl, rfl, rfl⟩ := h
        rw [List.length_take, List.length_drop]
        omega
theorem tNum_len {most : Int} {s r : List UInt8} {k e e' : Nat} (h : tNum most s e = (k, r, e')) (hm : most ≤ 9223372036854775807) : r.length ≤ s.length := by
  unfold tNum at h
  split at h
  · simp only [Prod.mk.injEq] at h
    obtain ⟨rfl, rfl, rfl⟩ := h
    simp
  · have hp := takeMost_prop s most hm
    rw [h] at hp
    exact hp.2.1

set_option maxHeartbeats 4000000 in
set_option maxRecDepth 10000 in
theorem decodeMark_any (l : List UInt8) (w : World) (hl : l.length ≤ 100000000000) :
    Calls Try.prog 24 #[.string (bs l)] w (RetBelow w (.tuple #[.string (bs (decodeMark l).1), .int .i64 (decodeMark l).2.1, .int .i64 (decodeMark l).2.2])) := by
  have ho := only_any l 2
  have hol : (only l 2).1.length ≤ l.length := by
    unfold only
    simp only
    rcases next_small l with h | ⟨h, _⟩
    · have := (next_one l h).1
      have h2 := congrArg List.length this
      rw [List.length_append, rec_len] at h2
      omega
    · rw [h]; simp [z]
  unfold decodeMark
  obtain ⟨d, e0, hd⟩ : ∃ a b, only l 2 = (a, b) := ⟨_, _, rfl⟩
  rw [hd] at ho hol ⊢
  simp only at ho hol ⊢
  obtain ⟨id, s1, e1, h1⟩ : ∃ a b c, tText 16 d e0 = (a, b, c) := ⟨_, _, _, rfl⟩
  rw [h1]
  simp only
  obtain ⟨n, s2, e2, h2⟩ : ∃ a b c, tNum 1099511627776 s1 e1 = (a, b, c) := ⟨_, _, _, rfl⟩
  rw [h2]
  simp only
  have hl1 := tText_len h1 (by omega)
  have hl2 := tNum_len h2 (by omega)
  have T1 := Lib.hid (ttext_of h1)
  have T2 := Lib.hid (tnum_of h2)
  have HO := Lib.hid ho
  have hid := isID_any id
  clear hd h1 h2 ho
  by_cases he : e2 ≠ 0
  · rw [if_pos he]
    have hb : ((e2 : Int) == 0) = false := by rw [beq_eq_false_iff_ne]; omega
    have hb2 : ((e2 : Int) != 0) = true := by rw [bne_iff_ne]; omega
    clear he hid
    go_enter Try.func24, Try.ntmps24
    go_wp2_with fail
    refine (HO.out _ (by omega)).mono ?_
    rintro e w1 ⟨rfl, hb1⟩
    go_wp2_with fail
    refine (T1.out _ _ (TkAt.box w1 _ d e0) (by omega) (by omega) (by omega)).mono ?_
    rintro e w2 ⟨rfl, k2, fr2⟩
    go_wp2_with fail
    refine (T2.out _ _ k2 (by omega) (by omega) (by omega)).mono ?_
    rintro e w3 ⟨rfl, k3, fr3⟩
    obtain ⟨c0, c1, f0, f1⟩ := k3
    go_wp2_with fail
    go_quiet (fail)
    go_wp2_with fail
    go_ret3
    exact ⟨rfl, below_drewN (fr3.below (fr2.below (hb1.alloc hb1.size _) hb1.size) hb1.size) _⟩
  · rw [if_neg he]
    obtain rfl : e2 = 0 := by omega
    have HI := Lib.hid hid
    clear he hid
    by_cases h1 : s2 = []
    · subst h1
      by_cases h2 : idOk id = true
      · rw [if_neg (by rw [h2]; simp)]
        rw [h2] at HI
        clear h2
        go_enter Try.func24, Try.ntmps24
        go_wp2_with fail
        refine (HO.out _ (by omega)).mono ?_
        rintro e w1 ⟨rfl, hb1⟩
        go_wp2_with fail
        refine (T1.out _ _ (TkAt.box w1 _ d e0) (by omega) (by omega) (by omega)).mono ?_
        rintro e w2 ⟨rfl, k2, fr2⟩
        go_wp2_with fail
        refine (T2.out _ _ k2 (by omega) (by omega) (by omega)).mono ?_
        rintro e w3 ⟨rfl, k3, fr3⟩
        obtain ⟨c0, c1, f0, f1⟩ := k3
        go_wp2_with fail
        refine (HI.out _ (by omega)).mono ?_
        rintro e w4 ⟨rfl, rfl⟩
        go_wp2_with fail
        go_ret3
        exact ⟨rfl, fr3.below (fr2.below (hb1.alloc hb1.size _) hb1.size) hb1.size⟩
      · have h2 : idOk id = false := by simpa using h2
        rw [if_pos (.inr h2)]
        rw [h2] at HI
        clear h2
        go_enter Try.func24, Try.ntmps24
        go_wp2_with fail
        refine (HO.out _ (by omega)).mono ?_
        rintro e w1 ⟨rfl, hb1⟩
        go_wp2_with fail
        refine (T1.out _ _ (TkAt.box w1 _ d e0) (by omega) (by omega) (by omega)).mono ?_
        rintro e w2 ⟨rfl, k2, fr2⟩
        go_wp2_with fail
        refine (T2.out _ _ k2 (by omega) (by omega) (by omega)).mono ?_
        rintro e w3 ⟨rfl, k3, fr3⟩
        obtain ⟨c0, c1, f0, f1⟩ := k3
        go_wp2_with fail
        refine (HI.out _ (by omega)).mono ?_
        rintro e w4 ⟨rfl, rfl⟩
        go_wp2_with fail
        go_quiet (fail)
        go_wp2_with fail
        go_ret3
        exact ⟨rfl, below_drewN ((fr3.below (fr2.below (hb1.alloc hb1.size _) hb1.size) hb1.size).setCell (by simpa using hb1.size) _) _⟩
    · rw [if_pos (.inl h1)]
      have hb : s2.isEmpty = false := by cases s2; exact absurd rfl h1; rfl
      have hb2 : (s2 != []) = true := by rw [bne_iff_ne]; exact h1
      clear h1
      go_enter Try.func24, Try.ntmps24
      go_wp2_with fail
      refine (HO.out _ (by omega)).mono ?_
      rintro e w1 ⟨rfl, hb1⟩
      go_wp2_with fail
      refine (T1.out _ _ (TkAt.box w1 _ d e0) (by omega) (by omega) (by omega)).mono ?_
      rintro e w2 ⟨rfl, k2, fr2⟩
      go_wp2_with fail
      refine (T2.out _ _ k2 (by omega) (by omega) (by omega)).mono ?_
      rintro e w3 ⟨rfl, k3, fr3⟩
      obtain ⟨c0, c1, f0, f1⟩ := k3
      go_wp2_with fail
      go_quiet (fail)
      go_wp2_with fail
      go_ret3
      exact ⟨rfl, below_drewN ((fr3.below (fr2.below (hb1.alloc hb1.size _) hb1.size) hb1.size).setCell (by simpa using hb1.size) _) _⟩

end Go.Proofs.Ytdmhjejjgcfplaa
