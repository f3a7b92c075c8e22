/-
  Layer 1: the walks of the document's answer (barographref01): it computes what leb computes.
-/
import Derived.Test.YtemmgejaoegpfaaZLebA
import Derived.Test.YtemmgejaoegpfaaZCut

namespace Go.Proofs.Ytemmgejaoegpfaa
open Go.RowKit Go.Bar Go.Bar.Leb

end Go.Proofs.Ytemmgejaoegpfaa
