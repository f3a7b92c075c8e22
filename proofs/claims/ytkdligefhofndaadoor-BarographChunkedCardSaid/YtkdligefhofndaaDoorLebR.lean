/-
  Layer 1: the walks of the document's answer (barographref01): it computes what leb computes.
-/
import Derived.Test.YtkdligefhofndaaDoorLebA
import Derived.Test.YtkdligefhofndaaDoorCut
namespace Go.Proofs.YtkdligefhofndaaDoor
open Go.RowKit Go.Bar Go.Bar.Leb

end Go.Proofs.YtkdligefhofndaaDoor
