/-
  Layer 9: the walks of meta's takers.
-/
import Derived.Test.YtemmgejaoegpfaaZMetF
import Derived.Handy

namespace Go.Proofs.Ytemmgejaoegpfaa
open Go.RowKit Go.Bar Go.Bar.Leb Go.Bar.Frm Go.Bar.Idt Go.Bar.Met

/-- a taker in memory -/
structure TkAt (w : World) (b : Nat) (s : List UInt8) (e : Nat) : Prop where
  c0 : w.cell? ⟨b, 0, none⟩ = some (.string (bs s))
  c1 : w.cell? ⟨b, 1, none⟩ = some (.int .i64 e)
  f0 : w.frozen? ⟨b, 0, none⟩ = false
  f1 : w.frozen? ⟨b, 1, none⟩ = false
theorem TkAt.below {w w' : World} {b : Nat} {s : List UInt8} {e : Nat} (h : TkAt w b s e) (hb : Below w.heap.size w w') : TkAt w' b s e := by
  have hlt := World.block_lt_of_cell? _ _ h.c0
  exact ⟨(hb.cell (p := ⟨b, 0, none⟩) hlt).trans h.c0, (hb.cell (p := ⟨b, 1, none⟩) hlt).trans h.c1, (hb.frozen (p := ⟨b, 0, none⟩) hlt).trans h.f0, (hb.frozen (p := ⟨b, 1, none⟩) hlt).trans h.f1⟩
theorem TkAt.box (w : World) (T : TypeId) (s : List UInt8) (e : Nat) : TkAt (w.alloc (.cells #[.string (bs s), .int .i64 e] T)) w.heap.size s e :=
  ⟨by rw [World.cell?_alloc_new]; rfl, by rw [World.cell?_alloc_new]; rfl, by simp only [World.frozen?, heap_alloc_new]; rfl, by simp only [World.frozen?, heap_alloc_new]; rfl⟩
/-- the taker's block may have turned, and no other one -/
def TkFr (b : Nat) (w w' : World) : Prop := Fr (fun k _ => k = b) w w'
theorem TkFr.below {w0 w1 w2 : World} {b : Nat} (h : TkFr b w1 w2) (hb : Below w0.heap.size w0 w1) (hbk : w0.heap.size ≤ b) : Below w0.heap.size w0 w2 :=
  hb.trans (Fr.below h hb.size (fun k i hk hS => by subst hS; omega))
/-- what a step of a taker leaves -/
def TkStep (w : World) (b : Nat) (v : Value) (s : List UInt8) (e : Nat) (en : Ending) (w' : World) : Prop := en = .returned v ∧ TkAt w' b s e ∧ TkFr b w w'

theorem tk_store {w : World} {b : Nat} {s : List UInt8} {e : Nat} (h : TkAt w b s e) (n : Nat) (r : List UInt8) (e' : Int) (e2 : Nat) (he : e' = e2) : TkAt (((w.drewN n).setCell ⟨b, 0, none⟩ (.string (bs r))).setCell ⟨b, 1, none⟩ (.int .i64 e')) b r e2 ∧ TkFr b w (((w.drewN n).setCell ⟨b, 0, none⟩ (.string (bs r))).setCell ⟨b, 1, none⟩ (.int .i64 e')) := by
  subst he
  have h := h.below (below_draws w n)
  have hf : TkFr b w (w.drewN n) := Fr.of_below (below_draws w n)
  refine ⟨⟨?_, ?_, ?_, ?_⟩, (hf.setCell (fun _ => rfl) _).setCell (fun _ => rfl) _⟩
  · rw [World.cell?_setCell_other _ _ _ _ (by simp)]; exact World.cell?_setCell_same _ _ _ h.c0
  · exact World.cell?_setCell_same _ _ _ (u := .int .i64 e) (by rw [World.cell?_setCell_other _ _ _ _ (by simp)]; exact h.c1)
  · rw [World.frozen?_setCell, World.frozen?_setCell]; exact h.f0
  · rw [World.frozen?_setCell, World.frozen?_setCell]; exact h.f1

theorem tText_len {most : Int} {s l r : List UInt8} {e e' : Nat} (h : tText most s e = (l, r, e')) (hm : most ≤ 9223372036854775807) : l.length ≤ s.length ∧ r.length ≤ s.length := by
  unfold tText at h
  split at h
  · simp only [Prod.mk.injEq] at h
    obtain ⟨rfl, rfl, rfl⟩ := h
    simp
  · have hp := takeMost_prop s most hm
    unfold takeText at h
    split at h
    · simp only [Prod.mk.injEq] at h
      obtain ⟨rfl, rfl, rfl⟩ := h
      simp
    · split at h
      · simp only [Prod.mk.injEq] at h
        obtain ⟨rfl, rfl, rfl⟩ := h
        simp
      · simp only [Prod.mk.injEq] at h
        obtain ⟨rfl, rfl, rfl⟩ := h
        rw [List.length_take, List.length_drop]
        omega
theorem tNum_len {most : Int} {s r : List UInt8} {k e e' : Nat} (h : tNum most s e = (k, r, e')) (hm : most ≤ 9223372036854775807) : r.length ≤ s.length := by
  unfold tNum at h
  split at h
  · simp only [Prod.mk.injEq] at h
    obtain ⟨rfl, rfl, rfl⟩ := h
    simp
  · have hp := takeMost_prop s most hm
    rw [h] at hp
    exact hp.2.1

end Go.Proofs.Ytemmgejaoegpfaa
