/-
  Layer 9: the walks of Take and Decode.
-/
import Derived.Test.YtemmgejaoegpfaaZMetU
import Derived.Test.YtemmgejaoegpfaaZMetC

namespace Go.Proofs.Ytemmgejaoegpfaa
open Go.RowKit Go.Bar Go.Bar.Leb Go.Bar.Frm Go.Bar.Idt Go.Bar.Met

/-- a meta that was taken, and what goes with it -/
def RetMeta (w : World) (m : Mt) (r : List UInt8) (en : Ending) (w' : World) : Prop :=
  ∃ fv sv, en = .returned (.tuple #[.agg #[.string (bs m.id), .int .i64 m.mn, .int .i64 m.mx, .int .i64 m.lv, .int .i64 m.sr, .int .i64 m.sm, fv, sv], .string (bs r), .int .i64 0]) ∧ FBuf w w' 59 3 fv m.fs.length (fcs m.fs) ∧ FBuf w w' 9 1 sv m.ss.length (scs m.ss) ∧ Below w.heap.size w w'
/-- none was taken -/
def RetNoMeta (w : World) (en : Ending) (w' : World) : Prop :=
  ∃ e : Nat, e ≠ 0 ∧ en = .returned (.tuple #[.agg #[.string { data := #[] }, .int .i64 0, .int .i64 0, .int .i64 0, .int .i64 0, .int .i64 0, .slice none 0 0, .slice none 0 0], .string (bs []), .int .i64 e]) ∧ Below w.heap.size w w'

/-- blocks B and B + 1 may have turned -/
def S2 (B : Nat) : Nat → Nat → Prop := fun k _ => k = B ∨ k = B + 1
theorem frB_set {w w' : World} {B : Nat} (h : Fr (S2 B) w w') {k : Nat} (hk : k = B ∨ k = B + 1) (i : Nat) (v : Value) : Fr (S2 B) w (w'.setCell ⟨k, i, none⟩ v) := Fr.setCell h (fun _ => hk) v
theorem S2.far {B : Nat} : ∀ k i, B + 2 ≤ k → ¬ S2 B k i := fun k i hk h => by rcases h with h | h <;> omega
theorem S2.below {B : Nat} : ∀ k i, k < B → ¬ S2 B k i := fun k i hk h => by rcases h with h | h <;> omega

theorem tSrc_len : ∀ (n : Nat) (s r : List UInt8) (e e' : Nat) (ss : List (List UInt8)), tSrc n s e = (ss, r, e') → (∀ x ∈ ss, x.length ≤ s.length)
  | 0, s, r, e, e', ss, h => by
    simp only [tSrc, Prod.mk.injEq] at h
    obtain ⟨rfl, _, _⟩ := h
    simp
  | n + 1, s, r, e, e', ss, h => by
    rw [tSrc] at h
    split at h
    · simp only [Prod.mk.injEq] at h
      obtain ⟨rfl, _, _⟩ := h
      simp
    · obtain ⟨a, s1, e1, h1⟩ : ∃ a b c, tText 16 s e = (a, b, c) := ⟨_, _, _, rfl⟩
      obtain ⟨ss', s2, e2, h2⟩ : ∃ a b c, tSrc n s1 e1 = (a, b, c) := ⟨_, _, _, rfl⟩
      rw [h1] at h
      simp only [h2, Prod.mk.injEq] at h
      obtain ⟨rfl, _, _⟩ := h
      have hl := tText_len h1 (by omega)
      have ih := tSrc_len n _ _ _ _ _ h2
      intro x hx
      rcases List.mem_cons.1 hx with rfl | hx
      · exact hl.1
      · have := ih x hx; omega
theorem tFields_src {l r : List UInt8} {m : Mt} {e : Nat} (h : tFields l 0 = (m, r, e)) : m.id.length ≤ l.length ∧ ∀ s ∈ m.ss, s.length ≤ l.length := by
  unfold tFields at h
  obtain ⟨id, s1, e1, h1⟩ : ∃ a b c, tText 16 l 0 = (a, b, c) := ⟨_, _, _, rfl⟩
  rw [h1] at h
  simp only at h
  obtain ⟨mn, s2, e2, h2⟩ : ∃ a b c, tNum 1099511627776 s1 e1 = (a, b, c) := ⟨_, _, _, rfl⟩
  rw [h2] at h
  simp only at h
  obtain ⟨mx, s3, e3, h3⟩ : ∃ a b c, tNum 1099511627776 s2 e2 = (a, b, c) := ⟨_, _, _, rfl⟩
  rw [h3] at h
  simp only at h
  obtain ⟨lv, s4, e4, h4⟩ : ∃ a b c, tNum 9 s3 e3 = (a, b, c) := ⟨_, _, _, rfl⟩
  rw [h4] at h
  simp only at h
  obtain ⟨sr, s5, e5, h5⟩ : ∃ a b c, tNum 1073741824 s4 e4 = (a, b, c) := ⟨_, _, _, rfl⟩
  rw [h5] at h
  simp only at h
  obtain ⟨sm, s6, e6, h6⟩ : ∃ a b c, tNum 1073741824 s5 e5 = (a, b, c) := ⟨_, _, _, rfl⟩
  rw [h6] at h
  simp only at h
  have hF : ∀ {s : List UInt8} {e : Nat} {f : Fl} {r : List UInt8} {e' : Nat}, tFile s e = (f, r, e') → r.length ≤ s.length := fun {s e f r e'} h => by
    unfold tFile at h
    obtain ⟨nm, sA, eA, g1⟩ : ∃ a b c, tText 40 s e = (a, b, c) := ⟨_, _, _, rfl⟩
    rw [g1] at h
    simp only at h
    obtain ⟨sz, sB, eB, g2⟩ : ∃ a b c, tNum 1048576 sA eA = (a, b, c) := ⟨_, _, _, rfl⟩
    rw [g2] at h
    simp only at h
    obtain ⟨su, sC, eC, g3⟩ : ∃ a b c, tNum 4294967295 sB eB = (a, b, c) := ⟨_, _, _, rfl⟩
    rw [g3] at h
    simp only [Prod.mk.injEq] at h
    obtain ⟨_, rfl, _⟩ := h
    have a1 := (tText_len g1 (by omega)).2
    have a2 := tNum_len g2 (by omega)
    have a3 := tNum_len g3 (by omega)
    omega
  obtain ⟨f1, s7, e7, h7⟩ : ∃ a b c, tFile s6 e6 = (a, b, c) := ⟨_, _, _, rfl⟩
  rw [h7] at h
  simp only at h
  obtain ⟨f2, s8, e8, h8⟩ : ∃ a b c, tFile s7 e7 = (a, b, c) := ⟨_, _, _, rfl⟩
  rw [h8] at h
  simp only at h
  obtain ⟨n, s9, e9, h9⟩ : ∃ a b c, tNum 50 s8 e8 = (a, b, c) := ⟨_, _, _, rfl⟩
  rw [h9] at h
  simp only at h
  obtain ⟨ss, s10, e10, h10⟩ : ∃ a b c, tSrc n s9 e9 = (a, b, c) := ⟨_, _, _, rfl⟩
  rw [h10] at h
  simp only [Prod.mk.injEq] at h
  obtain ⟨rfl, _, _⟩ := h
  have a1 := tText_len h1 (by omega)
  have a2 := tNum_len h2 (by omega)
  have a3 := tNum_len h3 (by omega)
  have a4 := tNum_len h4 (by omega)
  have a5 := tNum_len h5 (by omega)
  have a6 := tNum_len h6 (by omega)
  have a7 := hF h7
  have a8 := hF h8
  have a9 := tNum_len h9 (by omega)
  have a10 := tSrc_len _ _ _ _ _ _ h10
  exact ⟨a1.1, fun x hx => by have := a10 x hx; omega⟩

end Go.Proofs.Ytemmgejaoegpfaa
