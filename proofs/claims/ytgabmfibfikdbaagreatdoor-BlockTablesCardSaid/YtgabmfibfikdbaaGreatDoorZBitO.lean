/-
 Layer 3: the walks of the reference's Number and Of.
-/
import Derived.Test.YtgabmfibfikdbaaGreatDoorZBitW
import Derived.Test.YtgabmfibfikdbaaGreatDoorZBitM

namespace Go.Proofs.YtgabmfibfikdbaaGreatDoor
open Go.RowKit Go.Bar Go.Bar.Bit

structure BoolsIn (w : World) (v : Value) (l : List Bool) : Prop where
 shape : ∃ A c, v = .slice A l.length c ∧ l.length ≤ c
 cells : ∀ i x, l[i]? = some x → ∃ b o c, v = .slice (some ⟨b, o, none⟩) l.length c ∧ w.cell? ⟨b, o + i, none⟩ = some (.bool x)

set_option maxHeartbeats 400000 in
set_option maxRecDepth 10000 in
theorem bitNumber_any (v : Value) (l : List Bool) (W : World) (hn : l.length ≤ 64) (hb : BoolsIn W v l) :
  Calls Tryz.prog 110 #[v] W fun e w' => e = .returned (.int .u64 ((num l : Nat) : Int)) ∧ w' = W := by
 obtain ⟨A, c, rfl, hcap⟩ := hb.shape
 go_enter Tryz.func110, Tryz.ntmps110
 go_wp2_with fail
 go_loopw [3, 8] (fun v i wr => ∃ (k c : Nat), k ≤ l.length ∧ i = .int .i64 k ∧ v = .int .u64 c ∧ c = num (l.take k) ∧ wr = W) (fun _ i _ => l.length - (intOf i).toNat)
 case atStart => exact ⟨0, 0, Nat.zero_le _, rfl, rfl, by simp [num], rfl⟩
 case round =>
  obtain ⟨k, c, hk, rfl, rfl, hc, rfl⟩ := hrel
  have hlt := num_lt k (l.take k) (by rw [List.length_take]; omega)
  rw [← hc] at hlt
  have HC := Lib.hid hc
  clear hc
  by_cases hkl : k < l.length
  ·have hp : 2 ^ k ≤ 2 ^ 63 := Nat.pow_le_pow_right (by omega) (by omega)
   have hc63 : c < 9223372036854775808 := by
    generalize 2 ^ k = z at *
    omega
   clear hlt hp
   obtain ⟨x, hx⟩ : ∃ x, l[k]? = some x := ⟨_, List.getElem?_eq_getElem hkl⟩
   obtain ⟨b, o, c', he, hcell⟩ := hb.cells k x hx
   injection he with e1 e2 e3
   subst e1; subst e3
   have hnx : num (l.take (k + 1)) = 2 * c + (if x then 1 else 0) := by
    rw [List.take_add_one, hx, HC.out]
    exact num_snoc _ _
   have HN := Lib.hid hnx
   clear hx hnx
   cases x
   ·go_wp2_with fail
    go_roundw
    case rel => exact ⟨k + 1, 2 * c, by omega, by go_num, by go_num, by rw [HN.out]; rfl, by first | rfl | trivial⟩
    case measure => simp [intOf]; omega
   ·go_wp2_with fail
    go_roundw
    case rel => exact ⟨k + 1, 2 * c + 1, by omega, by go_num, by go_num, by rw [HN.out]; rfl, by first | rfl | trivial⟩
    case measure => simp [intOf]; omega
  ·go_wp2_with fail
   go_ret
   obtain rfl : k = l.length := by omega
   rw [HC.out, List.take_length]
   exact ⟨rfl, rfl⟩

theorem refBits_z (z : Int) (u : Nat) (hz : z = (u : Int)) (n : Int) (W : World) (hn1 : -9223372036854775808 ≤ n) (hn2 : n ≤ 9223372036854775807) (hu : u < 18446744073709551616) :
  Calls Tryz.prog 109 #[.int .u64 z, .int .i64 n] W (RetBools W (bitsOf u (clip n))) := by
 subst hz
 exact refBits_any u n W hn1 hn2 hu
theorem BoolsAt.prefix_ {B : Nat} {w : World} {A : Option Addr} {c : Nat} {l : List Bool} (h : BoolsAt B w (.slice A l.length c) l) (k : Nat) (hk : k ≤ l.length) : BoolsAt B w (.slice A k c) (l.take k) := by
 refine ⟨?_, fun j hj => h.new j ?_⟩
 ·have := Buf.prefix_ h.buf k hk
  rw [List.length_take, Nat.min_eq_left hk]
  unfold bls at this ⊢
  rw [Nat.mul_one, ← List.map_take] at this
  exact this
 ·cases A <;> simp_all [Value.ownBlock]
theorem unbyte_bits (x : UInt8) : bitsOf x.toNat (clip 8) = unbyte x := by
 rw [show clip 8 = 8 from rfl]
 simp [bitsOf, unbyte, bitOf]

set_option maxHeartbeats 1000000 in
set_option maxRecDepth 10000 in
theorem refOf_any (s : List UInt8) (n : Int) (W : World) (hn1 : -9223372036854775808 ≤ n) (hn2 : n ≤ 9223372036854775807) (hs : s.length ≤ 100000) :
  Calls Tryz.prog 85 #[.string (bs s), .int .i64 n] W (RetBools W ((unpack s).take (clipTo n (8 * s.length)))) := by
 go_enter Tryz.func85, Tryz.ntmps85
 go_wp2_with fail
 go_loopw [5, 6] (fun v i wr => ∃ (k : Nat) (l : List Bool), k ≤ s.length ∧ i = .int .i64 k ∧ BoolsAt W.heap.size wr v l ∧ l = unpack (s.take k) ∧ Below W.heap.size W wr) (fun _ i _ => s.length - (intOf i).toNat)
 case atStart => exact ⟨0, [], Nat.zero_le _, rfl, BoolsAt.empty (Nat.le_refl _), by simp [unpack], (Below.refl _ _).alloc (Nat.le_refl _) _⟩
 case round =>
  obtain ⟨k, l, hk, rfl, hat, hl, hbl⟩ := hrel
  have hll : l.length = 8 * k := by rw [hl, unpack_length, List.length_take]; omega
  have hl1 : l.length ≤ 8 * k := by omega
  have hl2 : 8 * k ≤ l.length := by omega
  have HL := Lib.hid hl
  clear hl hll
  by_cases hkl : k < s.length
  ·obtain ⟨x, hx⟩ : ∃ x, s[k]? = some x := ⟨_, List.getElem?_eq_getElem hkl⟩
   have hnx : unpack (s.take (k + 1)) = l ++ unbyte x := by
    rw [List.take_add_one, hx, HL.out]
    unfold unpack
    rw [List.flatMap_append]
    simp
   have HN := Lib.hid hnx
   have hg : ∀ h : k < (bs s).size, (bs s)[k]'h = x := by
    intro h
    have : s[k]? = some (s[k]'hkl) := List.getElem?_eq_getElem hkl
    rw [hx] at this
    injection this with this
    rw [this]
    rfl
   have hxl := UInt8.toNat_lt x
   clear hnx hx
   go_wp2_with fail
   refine (refBits_z _ x.toNat rfl 8 _ (by omega) (by omega) (by omega)).mono ?_
   rintro e w2 ⟨s2, rfl, h2, hb2⟩
   rw [unbyte_bits] at h2
   have hat := hat.below hb2
   have hbl := below_trans hbl hb2
   have hss := h2.buf.src (t := 180) Tryz.underlying180 (bls_one (unbyte x))
   have hsl := hat.buf
   have hu8 : (unbyte x).length ≤ 8 := Nat.le_refl _
   clear hb2 h2 hg
   obtain ⟨ub, hub⟩ : ∃ ub, ub = unbyte x := ⟨_, rfl⟩
   rw [← hub] at hss hu8
   have HU := Lib.hid hub
   clear hub
   go_wp2_with (at_builtin; refine wpList_append_el rfl (.tmp 14) (.tmp 19) 180 180 rfl bools_ty rfl hsl rfl hss (by simp only [maxLen]; omega) (by omega) ?_; intro va' w4 hb4 ha4 hg4)
   have h4 : BoolsAt W.heap.size w4 va' (l ++ ub) := ⟨by rw [List.length_append]; unfold bls at hb4 ⊢; rw [List.map_append]; exact hb4, hg4.new hbl.size hat.new⟩
   have hbl4 : Below W.heap.size W w4 := hbl.trans (ha4.below hbl.size hat.new)
   clear hb4 ha4 hg4
   go_roundw
   case rel => exact ⟨k + 1, l ++ ub, by omega, by go_num, h4, by rw [HN.out, HU.out], hbl4⟩
   case measure => simp [intOf]; omega
  ·obtain rfl : k = s.length := by omega
   have hlu : l = unpack s := by rw [HL.out, List.take_length]
   have HU := Lib.hid hlu
   clear hlu
   rcases (show n < 0 ∨ 0 ≤ n ∧ n < 8 * (s.length : Int) ∨ 8 * (s.length : Int) ≤ n by omega) with hc | hc | hc
   ·obtain ⟨A4, c4, rfl, _⟩ := Buf.shape hat.buf
    go_wp2_with fail
    go_ret
    rw [show clipTo n (8 * s.length) = 0 by unfold clipTo; omega, ← HU.out]
    exact ⟨_, rfl, hat.prefix_ 0 (by omega), hbl⟩
   ·obtain ⟨A4, c4, rfl, _⟩ := Buf.shape hat.buf
    go_wp2_with fail
    go_ret
    rw [show clipTo n (8 * s.length) = n.toNat by unfold clipTo; omega, ← HU.out]
    exact ⟨_, rfl, hat.prefix_ n.toNat (by omega), hbl⟩
   ·obtain ⟨A4, c4, rfl, _⟩ := Buf.shape hat.buf
    go_wp2_with fail
    go_ret
    have := hat.prefix_ l.length (by omega)
    rw [show clipTo n (8 * s.length) = l.length by unfold clipTo; omega, ← HU.out]
    exact ⟨_, rfl, this, hbl⟩

end Go.Proofs.YtgabmfibfikdbaaGreatDoor
