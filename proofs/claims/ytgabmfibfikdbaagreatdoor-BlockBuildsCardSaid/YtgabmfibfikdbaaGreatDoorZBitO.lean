/-
 Layer 3: the walks of the reference's Number and Of.
-/
import Derived.Test.YtgabmfibfikdbaaGreatDoorZBitW
import Derived.Test.YtgabmfibfikdbaaGreatDoorZBitM

namespace Go.Proofs.YtgabmfibfikdbaaGreatDoor
open Go.RowKit Go.Bar Go.Bar.Bit

theorem refBits_z (z : Int) (u : Nat) (hz : z = (u : Int)) (n : Int) (W : World) (hn1 : -9223372036854775808 <= n) (hn2 : n <= 9223372036854775807) (hu : u < 18446744073709551616) :
  Calls Tryz.prog 109 #[.int .u64 z, .int .i64 n] W (RetBools W (bitsOf u (clip n))) := by
 subst hz
 exact refBits_any u n W hn1 hn2 hu

end Go.Proofs.YtgabmfibfikdbaaGreatDoor
