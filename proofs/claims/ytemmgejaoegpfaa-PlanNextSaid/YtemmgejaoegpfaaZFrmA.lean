/-
  Layer 2: the walks of frame's functions.
-/
import Derived.Test.YtemmgejaoegpfaaZLebA
import Derived.Test.YtemmgejaoegpfaaZFrmM
import Derived.Test.YtemmgejaoegpfaaZLib2
import Derived.RegionTactic
import Derived.ChangeAlike
import Derived.Deep.RegionWith
import Derived.Deep.DeepCutAuto
import Derived.Deep.DrawnRows

namespace Go.Proofs.Ytemmgejaoegpfaa
open Go.RowKit Go.Bar Go.Bar.Leb Go.Bar.Frm

theorem u32_low (c b k : Nat) (hc : c < 4294967296) (hb : b < 256) : bits .and .u32 (bits .xor .u32 (c : Int) ((b / 2 ^ k : Nat) : Int)) 1 = (((c + b / 2 ^ k) % 2 : Nat) : Int) := by
  have h1 : b / 2 ^ k < 256 := Nat.lt_of_le_of_lt (Nat.div_le_self _ _) hb
  rw [u32_xor_nat c _ hc (by omega)]
  have h2 := Nat.xor_lt_two_pow (n := 32) (x := c) (y := b / 2 ^ k) (by omega) (by omega)
  have := u32_and_nat (c ^^^ (b / 2 ^ k)) 1 h2 (by omega)
  rw [show ((1 : Nat) : Int) = 1 from rfl] at this
  rw [this, Nat.and_one_is_mod]
  congr 1
  have := @Nat.xor_mod_two_eq_one c (b / 2 ^ k)
  omega

theorem more_cast (b j : Nat) (hb : b < 256) : (b : Int) / 2 ^ j % 4294967296 = ((b / 2 ^ j : Nat) : Int) := by
  have h1 : b / 2 ^ j < 256 := Nat.lt_of_le_of_lt (Nat.div_le_self _ _) hb
  have e : (b : Int) / 2 ^ j = ((b / 2 ^ j : Nat) : Int) := by
    rw [Int.natCast_ediv, Int.natCast_pow]; rfl
  rw [e]
  clear e
  generalize b / 2 ^ j = x at *
  omega
theorem more_yes {C b j : Nat} (hC : C < 4294967296) (hb : b < 256) (h : (bits .and .u32 (bits .xor .u32 (C : Int) ((b : Int) / 2 ^ j % 4294967296)) 1 == 1) = true) :
    bits .xor .u32 ((C : Int) / 2) 2197175160 = ((bstep C (b / 2 ^ j) : Nat) : Int) := by
  rw [more_cast b j hb, u32_low C b j hC hb, beq_iff_eq] at h
  unfold bstep
  rw [if_pos (by omega)]
  have := u32_xor_nat (C / 2) 2197175160 (by omega) (by omega)
  rw [← this]
  rfl
theorem more_no {C b j : Nat} (hC : C < 4294967296) (hb : b < 256) (h : (bits .and .u32 (bits .xor .u32 (C : Int) ((b : Int) / 2 ^ j % 4294967296)) 1 == 1) = false) :
    (C : Int) / 2 = ((bstep C (b / 2 ^ j) : Nat) : Int) := by
  rw [more_cast b j hb, u32_low C b j hC hb, beq_eq_false_iff_ne] at h
  unfold bstep
  rw [if_neg (by omega)]
  rfl
theorem no_bits (n : Nat) (h : n < 4294967296) : bits .xor .u32 IntKind.u32.max (n : Int) = ((no n : Nat) : Int) := by
  have h1 := u32_xor_nat 4294967295 n (by omega) h
  have e : IntKind.u32.max = ((4294967295 : Nat) : Int) := rfl
  rw [e, h1]
  unfold no
  congr 1
  apply Nat.eq_of_testBit_eq
  intro i
  rw [Nat.testBit_xor]
  have h2 := Nat.testBit_two_pow_sub_succ (x := n) (n := 32) h i
  rw [show 2 ^ 32 - (n + 1) = 4294967295 - n by omega] at h2
  rw [h2]
  have h3 := Nat.testBit_two_pow_sub_one 32 i
  rw [show (2 : Nat) ^ 32 - 1 = 4294967295 from rfl] at h3
  rw [h3]
  by_cases hi : i < 32
  · simp [hi]
  · have := Nat.testBit_lt_two_pow (x := n) (i := i) (Nat.lt_of_lt_of_le h (show 4294967296 ≤ 2 ^ i from Nat.pow_le_pow_right (show 0 < 2 by decide) (show 32 ≤ i by omega)))
    simp [hi, this]

attribute [local go_sem ↓] Go.wp_at_zero Go.wp_at_succ

theorem byte4 (n : Nat) : bcs (sum4 n) = [.int .u8 ((n % 256 : Nat) : Int), .int .u8 ((n / 256 % 256 : Nat) : Int), .int .u8 ((n / 65536 % 256 : Nat) : Int), .int .u8 ((n / 16777216 % 256 : Nat) : Int)] := by
  simp [bcs, sum4]

theorem src4 {P : Program} {t e : TypeId} (hT : P.underlying t = some (.slice e)) (w : World) (n : Nat) (z0 z1 z2 z3 : Int) (h0 : z0 = ((n % 256 : Nat) : Int)) (h1 : z1 = ((n / 256 % 256 : Nat) : Int)) (h2 : z2 = ((n / 65536 % 256 : Nat) : Int)) (h3 : z3 = ((n / 16777216 % 256 : Nat) : Int)) :
    Src P 1 t (.slice (some ⟨w.heap.size, 0, none⟩) 4 4) (sum4 n).length (bcs (sum4 n)) (w.alloc (.cells #[.int .u8 z0, .int .u8 z1, .int .u8 z2, .int .u8 z3] e)) := by
  subst h0; subst h1; subst h2; subst h3
  refine Src.ofSlice _ hT _ _ _ _ rfl (fun j u hu => ?_) (fun u hu => ?_)
  · rw [byte4] at hu
    rw [addr_add, World.cell?_alloc_new, Nat.zero_add, ← hu]
    rcases j with _ | _ | _ | _ | j <;> rfl
  · simp only [bcs, List.mem_map] at hu
    obtain ⟨b, _, rfl⟩ := hu
    rfl

end Go.Proofs.Ytemmgejaoegpfaa
