/-
  The laws' Cut: the first n bytes of a string.
-/
import Derived.Test.YtemmgejaoegpfaaZLib1
import Derived.Lib.Strings

namespace Go.Proofs.Ytemmgejaoegpfaa
open Go.RowKit Go.Bar

end Go.Proofs.Ytemmgejaoegpfaa
