/-
  Layer 9: the walks of Decode and of the laws' own awake.
-/
import Derived.Test.YtemmgejaoegpfaaZMetD

namespace Go.Proofs.Ytemmgejaoegpfaa
open Go.RowKit Go.Bar Go.Bar.Leb Go.Bar.Frm Go.Bar.Idt Go.Bar.Met

theorem frR_set {w w' : World} {B : Nat} (h : TkFr B w w') (i : Nat) (v : Value) : TkFr B w (w'.setCell ⟨B, i, none⟩ v) := Fr.setCell h (fun _ => rfl) v
/-- a meta that was decoded -/
def RetDec (w : World) (m : Mt) (en : Ending) (w' : World) : Prop :=
  ∃ fv sv, en = .returned (.tuple #[.agg #[.string (bs m.id), .int .i64 m.mn, .int .i64 m.mx, .int .i64 m.lv, .int .i64 m.sr, .int .i64 m.sm, fv, sv], .int .i64 0]) ∧ FBuf w w' 59 3 fv m.fs.length (fcs m.fs) ∧ FBuf w w' 9 1 sv m.ss.length (scs m.ss) ∧ Below w.heap.size w w'
/-- none was -/
def RetNoDec (w : World) (en : Ending) (w' : World) : Prop :=
  ∃ e : Nat, e ≠ 0 ∧ en = .returned (.tuple #[.agg #[.string { data := #[] }, .int .i64 0, .int .i64 0, .int .i64 0, .int .i64 0, .int .i64 0, .slice none 0 0, .slice none 0 0], .int .i64 e]) ∧ Below w.heap.size w w'
/-- bytes that are a meta's -/
def Dec (s : List UInt8) (m : Mt) : Prop := ∃ d, only s 1 = (d, 0) ∧ tFields d 0 = (m, [], 0) ∧ Ok m

theorem takes_or (d : List UInt8) : (∃ m, tFields d 0 = (m, [], 0) ∧ Ok m) ∨ (∃ m r, tFields d 0 = (m, r, 0) ∧ Ok m ∧ r ≠ []) ∨ ∀ m r, tFields d 0 = (m, r, 0) → ¬ Ok m := by
  obtain ⟨m, r, e, ht⟩ : ∃ a b c, tFields d 0 = (a, b, c) := ⟨_, _, _, rfl⟩
  by_cases he : e = 0
  · subst he
    by_cases hok : Ok m
    · by_cases hr : r = []
      · subst hr; exact .inl ⟨m, ht, hok⟩
      · exact .inr (.inl ⟨m, r, ht, hok, hr⟩)
    · exact .inr (.inr (fun m' r' h => by rw [ht] at h; simp only [Prod.mk.injEq] at h; rw [← h.1]; exact hok))
  · exact .inr (.inr (fun m' r' h => by rw [ht] at h; simp only [Prod.mk.injEq] at h; exact absurd h.2.2 he))

theorem mark_len (id : List UInt8) (n : Nat) (hi : id.length = 16) (hn : n < 128) : (markB id n).length = 24 := by
  have hw : w64 (max (n : Int) 0) = n := by rw [show max (n : Int) 0 = n by omega, w64_nat n (by omega)]
  have h1 : (markF id n).length = 18 := by
    unfold markF txt
    rw [hw, hi, u_lt (by omega), u_lt hn]
    simp [hi]
  unfold markB
  rw [rec_len]
  simp only [h1]
  rw [u_lt (by omega)]
  rfl

end Go.Proofs.Ytemmgejaoegpfaa
