/-
  Layer 1: the walks of leb's functions: what each call returns; buffers by chains of appends.
-/
import Derived.Test.YtemmgejaoegpfaaZLebM
import Derived.BigQuiet
import Derived.Deep.QuietTactic

namespace Go.Proofs.Ytemmgejaoegpfaa
open Go.RowKit Go.Bar Go.Bar.Leb

theorem bytes_ty : ByteTy Try.prog 94 5 :=
  ⟨Try.underlying94, Try.underlying5, info_parts (show (Try.prog.info? 5).map (fun i => (i.zero, i.size, i.bytes)) = some (some (.int .u8 0), 1, 1) by kernel_rfl)⟩

/-- what the page fixes -/
theorem fix1 : takeU (bs [128, 0]).data.toList = (0, [], 3) := by
  rw [bs_data]; simp [takeU, tk]
theorem fix2 : takeU (bs [1, 120]).data.toList = (1, [120], 0) := by
  rw [bs_data]; simp [takeU, tk]
theorem fix3 : u 300 = [172, 2] := by rw [u_ge (by omega), u_lt (by omega)]; rfl
theorem fix4 : u 2 = [2] := by rw [u_lt (by omega)]; rfl

end Go.Proofs.Ytemmgejaoegpfaa
