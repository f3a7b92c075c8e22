/-
  Layer 6: the walks of label's Key and Check.
-/
import Derived.Test.YtpjicajifdandaaDoorLabA
import Derived.Deep.RegionWith
namespace Go.Proofs.YtpjicajifdandaaDoor
open Go.RowKit Go.Bar Go.Bar.Leb Go.Bar.Lab

set_option maxHeartbeats 4000000 in
set_option maxRecDepth 10000 in
theorem key_any (v : Value) (l : List Pr) (w : World) (h : PsAt w v l) (hl : l.length ≤ 1000) (hp : ∀ p ∈ l, p.1.length ≤ 1000000 ∧ p.2.length ≤ 1000000) :
    Calls Tryd.prog 21 #[v] w (RetBelow w (.string (bs (key l)))) := by
  obtain ⟨A, c, rfl, hlc, hcm⟩ := h.shape
  unfold maxLen at hcm
  have hu := u_len l.length (by omega)
  have hconv : IntKind.u64.wrap (l.length : Int) = (l.length : Int) := by rw [IntKind.wrap_u64]; omega
  have HCV := Lib.hid hconv
  clear hconv
  go_enter Tryd.func21, Tryd.ntmps21
  go_wp2_with fail
  refine (uint_any (.slice none 0 0) [] l.length _ (by omega) (by simp) (BBuf.nil _ _)).mono ?_
  rintro e w1 ⟨v1, rfl, h1⟩
  go_wp2_with fail
  go_loopw [12, 3] (fun i b wr => ∃ (k : Nat) (ys : List UInt8), k ≤ l.length ∧ i = .int .i64 k ∧ BApp w (.slice none 0 0) 5 [] wr b ys ∧ ys.length ≤ 10 + k * 2000020 ∧ Hid (ys = u l.length ++ (l.take k).flatMap fun p => tx p.1 ++ tx p.2)) (fun i _ _ => l.length - (intOf i).toNat)
  case atStart => exact ⟨0, _, Nat.zero_le _, rfl, h1, by omega, Lib.hid (by simp)⟩
  case round =>
    clear h1
    obtain ⟨k, ys, hk, rfl, hch, hyl, hy⟩ := hrel
    have hB := hch.nil_below
    by_cases hgo : k < l.length
    · obtain ⟨p, hpk⟩ : ∃ p, l[k]? = some p := ⟨_, List.getElem?_eq_getElem hgo⟩
      obtain ⟨b, o, rfl, hbb, g1, g2⟩ := (h.below hB).at_ hpk
      obtain ⟨hp1, hp2⟩ := hp p (List.mem_of_getElem? hpk)
      have HP := Lib.hid hpk
      clear hpk
      have t1 := text_any
      go_wp2_with fail
      clear g1 g2
      have hck := (Blk.new wr #[.string (bs p.1), .string (bs p.2)] 57).drew
      have hch := (hch.alloc (.cells #[.string (bs p.1), .string (bs p.2)] 57)).drew
      have u1 := u_len p.1.length (by omega)
      have u2 := u_len p.2.length (by omega)
      go_region_with (first
        | (go_at_call 39; ((with_reducible refine (text_any _ _ (bs p.1) _ (by rw [bs_size]; unfold maxLen; omega) (by rw [bs_size]; simp; omega) hch.buf).mono ?_); rintro e w2 ⟨v2, rfl, h2⟩; have hck2 := hck.ap hch.buf h2.ap (by decide); have hch2 := hch.trans h2; have c1 : w2.cell? ⟨wr.heap.size, 1, none⟩ = some (.string (bs p.2)) := hck2.cell (i := 1) rfl; clear h2))
        | (go_at_call 39; ((with_reducible refine (text_any _ _ (bs p.2) _ (by rw [bs_size]; unfold maxLen; omega) (by simp only [bs_size, bs_data, List.nil_append, List.length_append]; omega) hch2.buf).mono ?_); rintro e w3 ⟨v3, rfl, h3⟩; have hch3 := hch2.trans h3; clear h3)))
      all_goals
        go_wp2_with fail
        go_roundw
        case rel =>
          refine ⟨k + 1, _, by omega, by go_num, hch3, by simp only [bs_size, bs_data, List.length_append]; omega, Lib.hid ?_⟩
          rw [hy.out, List.take_add_one, HP.out]
          simp [tx, bs_size, bs_data]
        case measure => simp [intOf]; omega
    · obtain rfl : k = l.length := by omega
      have hz : ys = key l := by rw [hy.out, List.take_length]; rfl
      have hc := hch.buf.string bytes_ty 9 Tryd.underlying9
      rw [List.nil_append, hz] at hc
      clear hz hy
      go_wp2_with fail
      go_ret
      exact ⟨rfl, hB⟩

end Go.Proofs.YtpjicajifdandaaDoor
