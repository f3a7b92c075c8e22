/-
  Layer 9: the walk of Made.
-/
import Derived.Test.YtemmgejaoegpfaaZMetE
import Derived.Test.YtemmgejaoegpfaaZLebR

namespace Go.Proofs.Ytemmgejaoegpfaa
open Go.RowKit Go.Bar Go.Bar.Leb Go.Bar.Frm Go.Bar.Idt Go.Bar.Met

theorem toNat_ofInt64 (t : Int) : (BitVec.ofInt 64 t).toNat = (t % 18446744073709551616).toNat := by rw [BitVec.toNat_ofInt]; rfl
theorem and7_of (t : Int) : ∃ n : Nat, bits .and .i64 t 7 = n ∧ (n : Int) = t % 8 := by
  have e : bits .and .i64 t 7 = IntKind.i64.wrap ((BitVec.ofInt 64 t &&& BitVec.ofInt 64 7).toNat : Int) := rfl
  have h3 : (BitVec.ofInt 64 7).toNat = 2 ^ 3 - 1 := by decide
  rw [BitVec.toNat_and, h3, Nat.and_two_pow_sub_one_eq_mod, IntKind.wrap_i64, toNat_ofInt64] at e
  exact ⟨(t % 8).toNat, by rw [e]; omega, by omega⟩
theorem and1023_of (t : Int) : ∃ n : Nat, bits .and .i64 t 1023 = n ∧ (n : Int) = t % 1024 := by
  have e : bits .and .i64 t 1023 = IntKind.i64.wrap ((BitVec.ofInt 64 t &&& BitVec.ofInt 64 1023).toNat : Int) := rfl
  have h3 : (BitVec.ofInt 64 1023).toNat = 2 ^ 10 - 1 := by decide
  rw [BitVec.toNat_and, h3, Nat.and_two_pow_sub_one_eq_mod, IntKind.wrap_i64, toNat_ofInt64] at e
  exact ⟨(t % 1024).toNat, by rw [e]; omega, by omega⟩
theorem and65535_of (t : Int) : ∃ n : Nat, bits .and .i64 t 65535 = n ∧ (n : Int) = t % 65536 := by
  have e : bits .and .i64 t 65535 = IntKind.i64.wrap ((BitVec.ofInt 64 t &&& BitVec.ofInt 64 65535).toNat : Int) := rfl
  have h3 : (BitVec.ofInt 64 65535).toNat = 2 ^ 16 - 1 := by decide
  rw [BitVec.toNat_and, h3, Nat.and_two_pow_sub_one_eq_mod, IntKind.wrap_i64, toNat_ofInt64] at e
  exact ⟨(t % 65536).toNat, by rw [e]; omega, by omega⟩
theorem and20_of (t : Int) : ∃ n : Nat, bits .and .i64 t 1048575 = n ∧ (n : Int) = t % 1048576 := by
  have e : bits .and .i64 t 1048575 = IntKind.i64.wrap ((BitVec.ofInt 64 t &&& BitVec.ofInt 64 1048575).toNat : Int) := rfl
  have h3 : (BitVec.ofInt 64 1048575).toNat = 2 ^ 20 - 1 := by decide
  rw [BitVec.toNat_and, h3, Nat.and_two_pow_sub_one_eq_mod, IntKind.wrap_i64, toNat_ofInt64] at e
  exact ⟨(t % 1048576).toNat, by rw [e]; omega, by omega⟩

/-- a meta of the call's own -/
def RetM (w : World) (m : Mt) (en : Ending) (w' : World) : Prop :=
  ∃ fv sv, en = .returned (.agg #[.string (bs m.id), .int .i64 m.mn, .int .i64 m.mx, .int .i64 m.lv, .int .i64 m.sr, .int .i64 m.sm, fv, sv]) ∧ FBuf w w' 59 3 fv m.fs.length (fcs m.fs) ∧ FBuf w w' 9 1 sv m.ss.length (scs m.ss) ∧ Below w.heap.size w w'

end Go.Proofs.Ytemmgejaoegpfaa
