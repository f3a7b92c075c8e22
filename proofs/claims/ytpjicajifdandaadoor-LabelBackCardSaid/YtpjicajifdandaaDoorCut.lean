/-
  The laws' Cut: the first n bytes of a string.
-/
import Derived.Test.YtpjicajifdandaaDoorLib1
import Derived.Lib.Strings
namespace Go.Proofs.YtpjicajifdandaaDoor
open Go.RowKit Go.Bar

set_option maxHeartbeats 400000 in
theorem cut_any (s : ByteArray) (n : Int) (w : World) (h : 0 ≤ n) (h2 : n ≤ 100000) (hs : s.size ≤ maxLen) :
    Calls Tryd.prog 10 #[.string s, .int .i64 n] w fun e w' => e = .returned (.string (bs (s.data.toList.take n.toNat))) ∧ w = w' := by
  unfold maxLen at hs
  have e1 : s.extract 0 n.toNat = bs (s.data.toList.take n.toNat) := bs_extract s.data.toList 0 n.toNat
  by_cases hn : n < s.size
  · have HE := Lib.hid e1
    clear e1
    go_enter Tryd.func10, Tryd.ntmps10
    go_wp2
    go_ret
    rw [← HE.out]
    exact ⟨rfl, rfl⟩
  · have e2 : bs (s.data.toList.take n.toNat) = s := by rw [List.take_of_length_le (by rw [← size_eq]; omega)]; rfl
    have HE := Lib.hid e2
    clear e1 e2
    go_enter Tryd.func10, Tryd.ntmps10
    go_wp2
    go_ret
    rw [HE.out]
    exact ⟨rfl, rfl⟩

end Go.Proofs.YtpjicajifdandaaDoor
