/-
  The laws' Cut: the first n bytes of a string.
-/
import Derived.Test.YtkdligefhofndaaDoorLib1
import Derived.Lib.Strings
namespace Go.Proofs.YtkdligefhofndaaDoor
open Go.RowKit Go.Bar

end Go.Proofs.YtkdligefhofndaaDoor
