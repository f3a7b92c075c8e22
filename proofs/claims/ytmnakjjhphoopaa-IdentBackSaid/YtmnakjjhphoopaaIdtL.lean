/-
  Layer 8: the laws' common parts.
-/
import Derived.Test.YtmnakjjhphoopaaIdtR
import Derived.Test.YtmnakjjhphoopaaLebR
import Derived.Test.YtmnakjjhphoopaaLib2
namespace Go.Proofs.Ytmnakjjhphoopaa
open Go.RowKit Go.Bar Go.Bar.Idt

theorem law_own : ownKnob Try.prog.godebug = none := by kernel_rfl
theorem law_laid : laidOutB Try.prog = true := by kernel_rfl

/-- Make, whatever it is handed -/
theorem make_any (t s : Int) : ∃ m e ok, (okT t ∧ okT s ∧ m = mk t.toNat s.toNat ∧ e = 0 ∧ ok = true ∨ ¬ (okT t ∧ okT s) ∧ m = [] ∧ e = 1 ∧ ok = false) ∧ m.length ≤ 16 ∧
    (∀ w, Calls Try.prog 32 #[.int .i64 t, .int .i64 s] w (RetBelow w (.tuple #[.string (bs m), .int .i64 e]))) := by
  by_cases h : okT t ∧ okT s
  · exact ⟨mk t.toNat s.toNat, 0, true, .inl ⟨h.1, h.2, rfl, rfl, rfl⟩, by rw [mk_length]; omega, fun w => make_ok t s w h.1 h.2⟩
  · exact ⟨[], 1, false, .inr ⟨h, rfl, rfl, rfl⟩, by simp, fun w => (make_bad t s w h).mono (fun e w' ⟨h1, h2⟩ => ⟨h1, by subst h2; exact Below.refl _ _⟩)⟩

/-- the reference's Make, too -/
theorem makeBoth_any (t s : Int) : ∃ m e ok, (e = 0 ∧ ok = true ∨ e = 1 ∧ ok = false) ∧
    (∀ w, Calls Try.prog 32 #[.int .i64 t, .int .i64 s] w (RetBelow w (.tuple #[.string (bs m), .int .i64 e]))) ∧
    (∀ w, Calls Try.prog 33 #[.int .i64 t, .int .i64 s] w fun e' w' => e' = .returned (.tuple #[.string (bs m), .bool ok]) ∧ w = w') := by
  by_cases h : okT t ∧ okT s
  · exact ⟨mk t.toNat s.toNat, 0, true, .inl ⟨rfl, rfl⟩, fun w => make_ok t s w h.1 h.2, fun w => refMake_ok t s w h.1 h.2⟩
  · exact ⟨[], 1, false, .inr ⟨rfl, rfl⟩, fun w => (make_bad t s w h).mono (fun e w' ⟨h1, h2⟩ => ⟨h1, by subst h2; exact Below.refl _ _⟩), fun w => refMake_bad t s w h⟩

end Go.Proofs.Ytmnakjjhphoopaa
