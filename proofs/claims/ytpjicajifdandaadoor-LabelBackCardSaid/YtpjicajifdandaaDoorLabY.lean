/-
  Layer 6: the walk of Is.
-/
import Derived.Test.YtpjicajifdandaaDoorLabL
import Derived.Test.YtpjicajifdandaaDoorLabX
namespace Go.Proofs.YtpjicajifdandaaDoor
open Go.RowKit Go.Bar Go.Bar.Leb Go.Bar.Lab

set_option maxHeartbeats 4000000 in
set_option maxRecDepth 10000 in
theorem is_any6 (v v' : Value) (l : List Pr) (w : World) (h : PsAt w v l) (h' : PsAt w v' l) :
    Calls Tryd.prog 18 #[v, v'] w (RetBelow w (.int .i64 0)) := by
  obtain ⟨A, c, rfl, hlc, hcm⟩ := h.shape
  obtain ⟨A', c', rfl, hlc', hcm'⟩ := h'.shape
  unfold maxLen at hcm hcm'
  have hb : ((l.length : Int) != (l.length : Int)) = false := by simp
  go_enter Tryd.func18, Tryd.ntmps18
  go_wp2_with fail
  go_loopw [14] (fun i wr => ∃ k : Nat, k ≤ l.length ∧ i = .int .i64 k ∧ Below w.heap.size w wr) (fun i _ => l.length - (intOf i).toNat)
  case atStart => exact ⟨0, Nat.zero_le _, rfl, Below.refl _ _⟩
  case round =>
    clear hb
    obtain ⟨k, hk, rfl, hbl⟩ := hrel
    by_cases hgo : k < l.length
    · obtain ⟨p, hpk⟩ : ∃ p, l[k]? = some p := ⟨_, List.getElem?_eq_getElem hgo⟩
      obtain ⟨ba, oa, rfl, hba, g1, g2⟩ := (h.below hbl).at_ hpk
      obtain ⟨bb, ob, rfl, hbb, f1, f2⟩ := (h'.below hbl).at_ hpk
      clear hpk
      have hbl2 := below_trans hbl (below_alloc1 wr (.cells #[.string (bs p.1), .string (bs p.2)] 61))
      go_wp2_with fail
      go_quiet (fail)
      go_wp2_with fail
      go_roundw
      case rel => exact ⟨k + 1, by omega, by go_num, below_drewN hbl2 _⟩
      case measure => simp [intOf]; try omega
    · obtain rfl : k = l.length := by omega
      go_wp2_with fail
      go_ret
      exact ⟨rfl, hbl⟩

end Go.Proofs.YtpjicajifdandaaDoor
