/-
  Layer 9: the walks of meta's writers: fields, Put, Encode, EncodeMark.
-/
import Derived.Test.YtemmgejaoegpfaaZMetA
import Derived.Test.YtemmgejaoegpfaaZLib7

namespace Go.Proofs.Ytemmgejaoegpfaa
open Go.RowKit Go.Bar Go.Bar.Leb Go.Bar.Frm Go.Bar.Idt Go.Bar.Met

/-- a new text -/
theorem BBuf.string' {w : World} {v : Value} {l : List UInt8} (h : BBuf w 5 v l) : ∀ w', w' = w → (convert 94 9 v).run Try.prog w' = .ok (.string (bs l)) w' := by
  rintro w' rfl
  exact h.string bytes_ty 9 Try.underlying9

theorem encode_len (m : Mt) (hlen : (fields m).length ≤ 100000000000) : (encode m).length ≤ 15 + (fields m).length := by
  unfold encode
  rw [rec_len]
  have := u_len (fields m).length (by omega)
  simp only
  omega

end Go.Proofs.Ytemmgejaoegpfaa
