/-
  Layer 3: BitrowSplit: bits of a number in two parts.
-/
import Derived.Test.YthgkcmmjdgginaaBitW
import Derived.Test.YthgkcmmjdgginaaLib2
import Derived.Test.YthgkcmmjdgginaaRows
namespace Go.Proofs.Ythgkcmmjdgginaa
open Go.RowKit Go.Bar Go.Bar.Bit Go.ChangeShapes Go.WideShapes Go.ChangeAt
open Go.ChangeMaps (open_string shut_string)

theorem law_own : ownKnob Try.prog.godebug = none := by kernel_rfl
theorem law_laid : laidOutB Try.prog = true := by kernel_rfl

theorem bitsOf_split (v k : Nat) : ∀ j, bitsOf v (k + j) = bitsOf (v / 2 ^ j) k ++ bitsOf v j := by
  induction k with
  | zero => intro j; rw [Nat.zero_add]; rfl
  | succ k ih =>
    intro j
    rw [show k + 1 + j = (k + j) + 1 by omega, bitsOf, bitsOf, ih, List.cons_append, Nat.div_div_eq_div_mul, ← Nat.pow_add, Nat.add_comm j k]

theorem div_rg (u e : Nat) (hu : u < 18446744073709551616) : 0 ≤ (u : Int) / 2 ^ e ∧ (u : Int) / 2 ^ e < 18446744073709551616 := by
  rw [show (u : Int) / 2 ^ e = ((u / 2 ^ e : Nat) : Int) by push_cast; rfl]
  have := Nat.div_le_self u (2 ^ e)
  generalize u / 2 ^ e = x at this ⊢
  omega
theorem rowBits_z (b o : Nat) (v : Value) (l : List Bool) (z n : Int) (w : World) (hn1 : -9223372036854775808 ≤ n) (hn2 : n ≤ 9223372036854775807) (hz : 0 ≤ z ∧ z < 18446744073709551616) (h : RowAt w b o v l) (hn : l.length < 100000000000) :
    Calls Try.prog 16 #[.pointer (some ⟨b, o, none⟩), .int .u64 z, .int .i64 n] w (RowTo w b o v (l ++ bitsOf z.toNat (clip n))) := by
  obtain ⟨u, rfl⟩ : ∃ u : Nat, z = (u : Int) := ⟨z.toNat, by omega⟩
  rw [Int.toNat_natCast]
  exact rowBits_any b o v l u n w hn1 hn2 (by omega) h hn
/-- two new rows -/
abbrev two0 (w : World) : World := (w.alloc (.cells #[.slice none 0 0, .int .i64 0] 25)).alloc (.cells #[.slice none 0 0, .int .i64 0] 25)
theorem two0_size (w : World) : (two0 w).heap.size = w.heap.size + 2 := by simp
theorem two0_below (w : World) : Below w.heap.size w (two0 w) := ((Below.refl _ _).alloc (Nat.le_refl _) _).alloc (by simp) _
theorem row_at0 {w : World} (h : Below w.heap.size w w) (t : TypeId) : RowAt (w.alloc (.cells #[.slice none 0 0, .int .i64 0] t)) w.heap.size 0 (.slice none 0 0) [] := (RowNew.start h t).at_
theorem two_a (w : World) : RowAt (two0 w) w.heap.size 0 (.slice none 0 0) [] := by
  have h := row_at0 (Below.refl _ w) 25
  have hf : Fr (fun _ _ => False) _ (two0 w) := Fr.of_below ((Below.refl _ _).alloc (Nat.le_refl _) _)
  exact h.keep hf (fun _ => id) (fun _ _ _ => id)
theorem two_b (w : World) : RowAt (two0 w) (w.heap.size + 1) 0 (.slice none 0 0) [] := by
  have h := row_at0 (Below.refl _ (w.alloc (.cells #[.slice none 0 0, .int .i64 0] 25))) 25
  rw [show (w.alloc (.cells #[.slice none 0 0, .int .i64 0] 25)).heap.size = w.heap.size + 1 by simp] at h
  exact h
structure TwoA (w w1 : World) (v1 : Value) (la : List Bool) : Prop where
  a : RowAt w1 w.heap.size 0 v1 la
  b : RowCh w1 (w.heap.size + 1) 0 (.slice none 0 0) w1 (.slice none 0 0) []
  below : Below w.heap.size w w1
  ne : v1.ownBlock ≠ some (w.heap.size + 1)
theorem two_first {w w1 : World} {la : List Bool} {e : Ending} (h : RowTo (two0 w) w.heap.size 0 (.slice none 0 0) la e w1) : e = .returned (.tuple #[]) ∧ ∃ v1, TwoA w w1 v1 la := by
  obtain ⟨v1, he, ha, hf, hm⟩ := h
  refine ⟨he, v1, ha, RowCh.refl ((two_b w).keep hf ?_ ?_), (two0_below w).trans (hf.below (by rw [two0_size]; omega) ?_), ?_⟩
  · rintro i (⟨h, _⟩ | h)
    · omega
    · simp [Value.ownBlock] at h
  · intro k i h
    simp [Value.ownBlock] at h
  · rintro k i hk (⟨rfl, _⟩ | h)
    · omega
    · simp [Value.ownBlock] at h
  · intro h
    rcases hm with e1 | ⟨g, e1, hg⟩
    · rw [h] at e1; simp [Value.ownBlock] at e1
    · rw [h] at e1; injection e1 with e1; rw [two0_size] at hg; omega
theorem two_then {w w1 w3 : World} {v1 v3 : Value} {la lb : List Bool} (h : TwoA w w1 v1 la) (hb : RowCh w1 (w.heap.size + 1) 0 (.slice none 0 0) w3 v3 lb) : RowAt w3 w.heap.size 0 v1 la ∧ RowAt w3 (w.heap.size + 1) 0 v3 lb ∧ Below w.heap.size w w3 := by
  refine ⟨h.a.keep hb.fr ?_ ?_, hb.at_, h.below.trans (hb.fr.below h.below.size ?_)⟩
  · rintro i (⟨h, _⟩ | h)
    · omega
    · simp [Value.ownBlock] at h
  · rintro k i hk (⟨rfl, _⟩ | h')
    · exact h.ne hk
    · simp [Value.ownBlock] at h'
  · rintro k i hk (⟨rfl, _⟩ | h)
    · omega
    · simp [Value.ownBlock] at h
theorem split_eq {u : Nat} {N K NK z : Int} (hK : 0 ≤ K) (hNK : 0 ≤ NK) (hN : N = K + NK) (h64 : N ≤ 64) (hz : z = (u : Int) / 2 ^ NK.toNat) :
    [] ++ bitsOf z.toNat (clip K) ++ bitsOf u (clip NK) = [] ++ bitsOf u (clip N) := by
  have e1 : clip N = clip K + clip NK := by unfold clip; omega
  have e2 : NK.toNat = clip NK := by unfold clip; omega
  have e3 : z.toNat = u / 2 ^ clip NK := by
    rw [hz, e2, show (u : Int) / 2 ^ clip NK = ((u / 2 ^ clip NK : Nat) : Int) by push_cast; rfl, Int.toNat_natCast]
  rw [List.nil_append, List.nil_append, e1, bitsOf_split, ← e3]

set_option maxHeartbeats 1000000 in
set_option maxRecDepth 10000 in
theorem split_1 (u : Nat) (hu : u < 18446744073709551616) (n : Int) (hn : -9223372036854775808 ≤ n ∧ n ≤ 9223372036854775807) (k : Int) (hk : -9223372036854775808 ≤ k ∧ k ≤ 9223372036854775807) (w : World) (hN : n < 0) (hK : k < 0) :
    Calls Try.prog 5 #[.int .u64 u, .int .i64 n, .int .i64 k] w (RetBelow w (.bool true)) := by
  have hle := clip_le
  have h2 := two_a w
  go_enter Try.func5, Try.ntmps5
  go_wp2_with fail
  refine (rowBits_any w.heap.size 0 _ [] u _ (two0 w) (by omega) (by omega) hu h2 (by simp)).mono ?_
  clear h2
  rintro e w1 e1
  obtain ⟨rfl, v1, h1⟩ := two_first e1
  clear e1
  go_wp2_with fail
  refine (rowBits_z (w.heap.size + 1) 0 _ [] _ _ w1 (by omega) (by omega) (by first | exact div_rg _ _ hu | omega) h1.b.at_ (by simp)).mono ?_
  rintro e w2 e2
  obtain ⟨rfl, v2, h2⟩ := h1.b.step e2
  clear e2
  go_wp2_with fail
  refine (rowBits_any (w.heap.size + 1) 0 _ _ u _ w2 (by omega) (by omega) hu h2.at_ (by have := hle 0; have := hle (0); simp only [List.length_append, bitsOf_length, List.length_nil]; omega)).mono ?_
  rintro e w3 e3
  obtain ⟨rfl, v3, h3⟩ := h2.step e3
  clear e3 h2
  rw [split_eq (N := 0) (K := 0) (NK := 0) (by omega) (by omega) (by omega) (by omega) (by first | rfl | simp)] at h3
  obtain ⟨ha, hb, hw⟩ := two_then h1 h3
  clear h1 h3
  obtain ⟨l, hl⟩ : ∃ l, l = [] ++ bitsOf u (clip (0)) := ⟨_, rfl⟩
  rw [← hl] at ha hb
  clear hl
  go_wp2_with fail
  refine (awake_any _).mono ?_
  rintro e w4 ⟨rfl, h4⟩
  have hf : Fr (fun _ _ => False) w3 w4 := Fr.of_below h4
  have ha := ha.keep hf (fun _ => id) (fun _ _ _ => id)
  have hb := hb.keep hf (fun _ => id) (fun _ _ _ => id)
  have hw := hw.trans (h4.mono hw.size)
  clear h4 hf
  go_wp2_with fail
  refine (rowText_any _ 0 v1 l _ ha).mono ?_
  rintro e w' ⟨rfl, rfl⟩
  go_wp2_with fail
  refine (rowText_any _ 0 v3 l _ hb).mono ?_
  rintro e w' ⟨rfl, rfl⟩
  go_wp2_with fail
  refine (rowLen_any _ 0 v1 l _ ha).mono ?_
  rintro e w' ⟨rfl, rfl⟩
  go_wp2_with fail
  refine (rowLen_any _ 0 v3 l _ hb).mono ?_
  rintro e w' ⟨rfl, rfl⟩
  go_wp2_with fail
  go_ret
  exact ⟨rfl, hw⟩

set_option maxHeartbeats 1000000 in
set_option maxRecDepth 10000 in
theorem split_2 (u : Nat) (hu : u < 18446744073709551616) (n : Int) (hn : -9223372036854775808 ≤ n ∧ n ≤ 9223372036854775807) (k : Int) (hk : -9223372036854775808 ≤ k ∧ k ≤ 9223372036854775807) (w : World) (hN : n < 0) (hK : 0 < k) :
    Calls Try.prog 5 #[.int .u64 u, .int .i64 n, .int .i64 k] w (RetBelow w (.bool true)) := by
  have hle := clip_le
  have h2 := two_a w
  go_enter Try.func5, Try.ntmps5
  go_wp2_with fail
  refine (rowBits_any w.heap.size 0 _ [] u _ (two0 w) (by omega) (by omega) hu h2 (by simp)).mono ?_
  clear h2
  rintro e w1 e1
  obtain ⟨rfl, v1, h1⟩ := two_first e1
  clear e1
  go_wp2_with fail
  refine (rowBits_z (w.heap.size + 1) 0 _ [] _ _ w1 (by omega) (by omega) (by first | exact div_rg _ _ hu | omega) h1.b.at_ (by simp)).mono ?_
  rintro e w2 e2
  obtain ⟨rfl, v2, h2⟩ := h1.b.step e2
  clear e2
  go_wp2_with fail
  refine (rowBits_any (w.heap.size + 1) 0 _ _ u _ w2 (by omega) (by omega) hu h2.at_ (by have := hle 0; have := hle (0); simp only [List.length_append, bitsOf_length, List.length_nil]; omega)).mono ?_
  rintro e w3 e3
  obtain ⟨rfl, v3, h3⟩ := h2.step e3
  clear e3 h2
  rw [split_eq (N := 0) (K := 0) (NK := 0) (by omega) (by omega) (by omega) (by omega) (by first | rfl | simp)] at h3
  obtain ⟨ha, hb, hw⟩ := two_then h1 h3
  clear h1 h3
  obtain ⟨l, hl⟩ : ∃ l, l = [] ++ bitsOf u (clip (0)) := ⟨_, rfl⟩
  rw [← hl] at ha hb
  clear hl
  go_wp2_with fail
  refine (awake_any _).mono ?_
  rintro e w4 ⟨rfl, h4⟩
  have hf : Fr (fun _ _ => False) w3 w4 := Fr.of_below h4
  have ha := ha.keep hf (fun _ => id) (fun _ _ _ => id)
  have hb := hb.keep hf (fun _ => id) (fun _ _ _ => id)
  have hw := hw.trans (h4.mono hw.size)
  clear h4 hf
  go_wp2_with fail
  refine (rowText_any _ 0 v1 l _ ha).mono ?_
  rintro e w' ⟨rfl, rfl⟩
  go_wp2_with fail
  refine (rowText_any _ 0 v3 l _ hb).mono ?_
  rintro e w' ⟨rfl, rfl⟩
  go_wp2_with fail
  refine (rowLen_any _ 0 v1 l _ ha).mono ?_
  rintro e w' ⟨rfl, rfl⟩
  go_wp2_with fail
  refine (rowLen_any _ 0 v3 l _ hb).mono ?_
  rintro e w' ⟨rfl, rfl⟩
  go_wp2_with fail
  go_ret
  exact ⟨rfl, hw⟩

set_option maxHeartbeats 1000000 in
set_option maxRecDepth 10000 in
theorem split_9 (u : Nat) (hu : u < 18446744073709551616) (n : Int) (hn : -9223372036854775808 ≤ n ∧ n ≤ 9223372036854775807) (w : World) (hN : n < 0) :
    Calls Try.prog 5 #[.int .u64 u, .int .i64 n, .int .i64 0] w (RetBelow w (.bool true)) := by
  have hle := clip_le
  have h2 := two_a w
  go_enter Try.func5, Try.ntmps5
  go_wp2_with fail
  refine (rowBits_any w.heap.size 0 _ [] u _ (two0 w) (by omega) (by omega) hu h2 (by simp)).mono ?_
  clear h2
  rintro e w1 e1
  obtain ⟨rfl, v1, h1⟩ := two_first e1
  clear e1
  go_wp2_with fail
  refine (rowBits_z (w.heap.size + 1) 0 _ [] _ _ w1 (by omega) (by omega) (by first | exact div_rg _ _ hu | omega) h1.b.at_ (by simp)).mono ?_
  rintro e w2 e2
  obtain ⟨rfl, v2, h2⟩ := h1.b.step e2
  clear e2
  go_wp2_with fail
  refine (rowBits_any (w.heap.size + 1) 0 _ _ u _ w2 (by omega) (by omega) hu h2.at_ (by have := hle 0; have := hle (0); simp only [List.length_append, bitsOf_length, List.length_nil]; omega)).mono ?_
  rintro e w3 e3
  obtain ⟨rfl, v3, h3⟩ := h2.step e3
  clear e3 h2
  rw [split_eq (N := 0) (K := 0) (NK := 0) (by omega) (by omega) (by omega) (by omega) (by first | rfl | simp)] at h3
  obtain ⟨ha, hb, hw⟩ := two_then h1 h3
  clear h1 h3
  obtain ⟨l, hl⟩ : ∃ l, l = [] ++ bitsOf u (clip (0)) := ⟨_, rfl⟩
  rw [← hl] at ha hb
  clear hl
  go_wp2_with fail
  refine (awake_any _).mono ?_
  rintro e w4 ⟨rfl, h4⟩
  have hf : Fr (fun _ _ => False) w3 w4 := Fr.of_below h4
  have ha := ha.keep hf (fun _ => id) (fun _ _ _ => id)
  have hb := hb.keep hf (fun _ => id) (fun _ _ _ => id)
  have hw := hw.trans (h4.mono hw.size)
  clear h4 hf
  go_wp2_with fail
  refine (rowText_any _ 0 v1 l _ ha).mono ?_
  rintro e w' ⟨rfl, rfl⟩
  go_wp2_with fail
  refine (rowText_any _ 0 v3 l _ hb).mono ?_
  rintro e w' ⟨rfl, rfl⟩
  go_wp2_with fail
  refine (rowLen_any _ 0 v1 l _ ha).mono ?_
  rintro e w' ⟨rfl, rfl⟩
  go_wp2_with fail
  refine (rowLen_any _ 0 v3 l _ hb).mono ?_
  rintro e w' ⟨rfl, rfl⟩
  go_wp2_with fail
  go_ret
  exact ⟨rfl, hw⟩

set_option maxHeartbeats 1000000 in
set_option maxRecDepth 10000 in
theorem split_3 (u : Nat) (hu : u < 18446744073709551616) (n : Int) (hn : -9223372036854775808 ≤ n ∧ n ≤ 9223372036854775807) (k : Int) (hk : -9223372036854775808 ≤ k ∧ k ≤ 9223372036854775807) (w : World) (hN : 0 ≤ n ∧ n ≤ 64) (hK : k < 0) :
    Calls Try.prog 5 #[.int .u64 u, .int .i64 n, .int .i64 k] w (RetBelow w (.bool true)) := by
  have hle := clip_le
  have h2 := two_a w
  go_enter Try.func5, Try.ntmps5
  go_wp2_with fail
  refine (rowBits_any w.heap.size 0 _ [] u _ (two0 w) (by omega) (by omega) hu h2 (by simp)).mono ?_
  clear h2
  rintro e w1 e1
  obtain ⟨rfl, v1, h1⟩ := two_first e1
  clear e1
  go_wp2_with fail
  refine (rowBits_z (w.heap.size + 1) 0 _ [] _ _ w1 (by omega) (by omega) (by first | exact div_rg _ _ hu | omega) h1.b.at_ (by simp)).mono ?_
  rintro e w2 e2
  obtain ⟨rfl, v2, h2⟩ := h1.b.step e2
  clear e2
  go_wp2_with fail
  refine (rowBits_any (w.heap.size + 1) 0 _ _ u _ w2 (by omega) (by omega) hu h2.at_ (by have := hle 0; have := hle (0); simp only [List.length_append, bitsOf_length, List.length_nil]; omega)).mono ?_
  rintro e w3 e3
  obtain ⟨rfl, v3, h3⟩ := h2.step e3
  clear e3 h2
  rw [split_eq (N := n) (K := 0) (NK := n) (by omega) (by omega) (by omega) (by omega) (by first | rfl | simp)] at h3
  obtain ⟨ha, hb, hw⟩ := two_then h1 h3
  clear h1 h3
  obtain ⟨l, hl⟩ : ∃ l, l = [] ++ bitsOf u (clip (n)) := ⟨_, rfl⟩
  rw [← hl] at ha hb
  clear hl
  go_wp2_with fail
  refine (awake_any _).mono ?_
  rintro e w4 ⟨rfl, h4⟩
  have hf : Fr (fun _ _ => False) w3 w4 := Fr.of_below h4
  have ha := ha.keep hf (fun _ => id) (fun _ _ _ => id)
  have hb := hb.keep hf (fun _ => id) (fun _ _ _ => id)
  have hw := hw.trans (h4.mono hw.size)
  clear h4 hf
  go_wp2_with fail
  refine (rowText_any _ 0 v1 l _ ha).mono ?_
  rintro e w' ⟨rfl, rfl⟩
  go_wp2_with fail
  refine (rowText_any _ 0 v3 l _ hb).mono ?_
  rintro e w' ⟨rfl, rfl⟩
  go_wp2_with fail
  refine (rowLen_any _ 0 v1 l _ ha).mono ?_
  rintro e w' ⟨rfl, rfl⟩
  go_wp2_with fail
  refine (rowLen_any _ 0 v3 l _ hb).mono ?_
  rintro e w' ⟨rfl, rfl⟩
  go_wp2_with fail
  go_ret
  exact ⟨rfl, hw⟩

set_option maxHeartbeats 1000000 in
set_option maxRecDepth 10000 in
theorem split_4 (u : Nat) (hu : u < 18446744073709551616) (n : Int) (hn : -9223372036854775808 ≤ n ∧ n ≤ 9223372036854775807) (k : Int) (hk : -9223372036854775808 ≤ k ∧ k ≤ 9223372036854775807) (w : World) (hN : 0 ≤ n ∧ n ≤ 64) (hK : 0 ≤ k ∧ k ≤ n) :
    Calls Try.prog 5 #[.int .u64 u, .int .i64 n, .int .i64 k] w (RetBelow w (.bool true)) := by
  have hle := clip_le
  have h2 := two_a w
  go_enter Try.func5, Try.ntmps5
  go_wp2_with fail
  refine (rowBits_any w.heap.size 0 _ [] u _ (two0 w) (by omega) (by omega) hu h2 (by simp)).mono ?_
  clear h2
  rintro e w1 e1
  obtain ⟨rfl, v1, h1⟩ := two_first e1
  clear e1
  go_wp2_with fail
  refine (rowBits_z (w.heap.size + 1) 0 _ [] _ _ w1 (by omega) (by omega) (by first | exact div_rg _ _ hu | omega) h1.b.at_ (by simp)).mono ?_
  rintro e w2 e2
  obtain ⟨rfl, v2, h2⟩ := h1.b.step e2
  clear e2
  go_wp2_with fail
  refine (rowBits_any (w.heap.size + 1) 0 _ _ u _ w2 (by omega) (by omega) hu h2.at_ (by have := hle 0; have := hle (k); simp only [List.length_append, bitsOf_length, List.length_nil]; omega)).mono ?_
  rintro e w3 e3
  obtain ⟨rfl, v3, h3⟩ := h2.step e3
  clear e3 h2
  rw [split_eq (N := n) (K := k) (NK := n - k) (by omega) (by omega) (by omega) (by omega) (by first | rfl | simp)] at h3
  obtain ⟨ha, hb, hw⟩ := two_then h1 h3
  clear h1 h3
  obtain ⟨l, hl⟩ : ∃ l, l = [] ++ bitsOf u (clip (n)) := ⟨_, rfl⟩
  rw [← hl] at ha hb
  clear hl
  go_wp2_with fail
  refine (awake_any _).mono ?_
  rintro e w4 ⟨rfl, h4⟩
  have hf : Fr (fun _ _ => False) w3 w4 := Fr.of_below h4
  have ha := ha.keep hf (fun _ => id) (fun _ _ _ => id)
  have hb := hb.keep hf (fun _ => id) (fun _ _ _ => id)
  have hw := hw.trans (h4.mono hw.size)
  clear h4 hf
  go_wp2_with fail
  refine (rowText_any _ 0 v1 l _ ha).mono ?_
  rintro e w' ⟨rfl, rfl⟩
  go_wp2_with fail
  refine (rowText_any _ 0 v3 l _ hb).mono ?_
  rintro e w' ⟨rfl, rfl⟩
  go_wp2_with fail
  refine (rowLen_any _ 0 v1 l _ ha).mono ?_
  rintro e w' ⟨rfl, rfl⟩
  go_wp2_with fail
  refine (rowLen_any _ 0 v3 l _ hb).mono ?_
  rintro e w' ⟨rfl, rfl⟩
  go_wp2_with fail
  go_ret
  exact ⟨rfl, hw⟩

set_option maxHeartbeats 1000000 in
set_option maxRecDepth 10000 in
theorem split_5 (u : Nat) (hu : u < 18446744073709551616) (n : Int) (hn : -9223372036854775808 ≤ n ∧ n ≤ 9223372036854775807) (k : Int) (hk : -9223372036854775808 ≤ k ∧ k ≤ 9223372036854775807) (w : World) (hN : 0 ≤ n ∧ n ≤ 64) (hK : n < k) :
    Calls Try.prog 5 #[.int .u64 u, .int .i64 n, .int .i64 k] w (RetBelow w (.bool true)) := by
  have hle := clip_le
  have h2 := two_a w
  go_enter Try.func5, Try.ntmps5
  go_wp2_with fail
  refine (rowBits_any w.heap.size 0 _ [] u _ (two0 w) (by omega) (by omega) hu h2 (by simp)).mono ?_
  clear h2
  rintro e w1 e1
  obtain ⟨rfl, v1, h1⟩ := two_first e1
  clear e1
  go_wp2_with fail
  refine (rowBits_z (w.heap.size + 1) 0 _ [] _ _ w1 (by omega) (by omega) (by first | exact div_rg _ _ hu | omega) h1.b.at_ (by simp)).mono ?_
  rintro e w2 e2
  obtain ⟨rfl, v2, h2⟩ := h1.b.step e2
  clear e2
  go_wp2_with fail
  refine (rowBits_any (w.heap.size + 1) 0 _ _ u _ w2 (by omega) (by omega) hu h2.at_ (by have := hle 0; have := hle (n); simp only [List.length_append, bitsOf_length, List.length_nil]; omega)).mono ?_
  rintro e w3 e3
  obtain ⟨rfl, v3, h3⟩ := h2.step e3
  clear e3 h2
  rw [split_eq (N := n) (K := n) (NK := 0) (by omega) (by omega) (by omega) (by omega) (by first | rfl | simp)] at h3
  obtain ⟨ha, hb, hw⟩ := two_then h1 h3
  clear h1 h3
  obtain ⟨l, hl⟩ : ∃ l, l = [] ++ bitsOf u (clip (n)) := ⟨_, rfl⟩
  rw [← hl] at ha hb
  clear hl
  go_wp2_with fail
  refine (awake_any _).mono ?_
  rintro e w4 ⟨rfl, h4⟩
  have hf : Fr (fun _ _ => False) w3 w4 := Fr.of_below h4
  have ha := ha.keep hf (fun _ => id) (fun _ _ _ => id)
  have hb := hb.keep hf (fun _ => id) (fun _ _ _ => id)
  have hw := hw.trans (h4.mono hw.size)
  clear h4 hf
  go_wp2_with fail
  refine (rowText_any _ 0 v1 l _ ha).mono ?_
  rintro e w' ⟨rfl, rfl⟩
  go_wp2_with fail
  refine (rowText_any _ 0 v3 l _ hb).mono ?_
  rintro e w' ⟨rfl, rfl⟩
  go_wp2_with fail
  refine (rowLen_any _ 0 v1 l _ ha).mono ?_
  rintro e w' ⟨rfl, rfl⟩
  go_wp2_with fail
  refine (rowLen_any _ 0 v3 l _ hb).mono ?_
  rintro e w' ⟨rfl, rfl⟩
  go_wp2_with fail
  go_ret
  exact ⟨rfl, hw⟩

set_option maxHeartbeats 1000000 in
set_option maxRecDepth 10000 in
theorem split_6 (u : Nat) (hu : u < 18446744073709551616) (n : Int) (hn : -9223372036854775808 ≤ n ∧ n ≤ 9223372036854775807) (k : Int) (hk : -9223372036854775808 ≤ k ∧ k ≤ 9223372036854775807) (w : World) (hN : 64 < n) (hK : k < 0) :
    Calls Try.prog 5 #[.int .u64 u, .int .i64 n, .int .i64 k] w (RetBelow w (.bool true)) := by
  have hle := clip_le
  have h2 := two_a w
  go_enter Try.func5, Try.ntmps5
  go_wp2_with fail
  refine (rowBits_any w.heap.size 0 _ [] u _ (two0 w) (by omega) (by omega) hu h2 (by simp)).mono ?_
  clear h2
  rintro e w1 e1
  obtain ⟨rfl, v1, h1⟩ := two_first e1
  clear e1
  go_wp2_with fail
  refine (rowBits_z (w.heap.size + 1) 0 _ [] _ _ w1 (by omega) (by omega) (by first | exact div_rg _ _ hu | omega) h1.b.at_ (by simp)).mono ?_
  rintro e w2 e2
  obtain ⟨rfl, v2, h2⟩ := h1.b.step e2
  clear e2
  go_wp2_with fail
  refine (rowBits_any (w.heap.size + 1) 0 _ _ u _ w2 (by omega) (by omega) hu h2.at_ (by have := hle 0; have := hle (0); simp only [List.length_append, bitsOf_length, List.length_nil]; omega)).mono ?_
  rintro e w3 e3
  obtain ⟨rfl, v3, h3⟩ := h2.step e3
  clear e3 h2
  rw [split_eq (N := 64) (K := 0) (NK := 64) (by omega) (by omega) (by omega) (by omega) (by first | rfl | simp)] at h3
  obtain ⟨ha, hb, hw⟩ := two_then h1 h3
  clear h1 h3
  obtain ⟨l, hl⟩ : ∃ l, l = [] ++ bitsOf u (clip (64)) := ⟨_, rfl⟩
  rw [← hl] at ha hb
  clear hl
  go_wp2_with fail
  refine (awake_any _).mono ?_
  rintro e w4 ⟨rfl, h4⟩
  have hf : Fr (fun _ _ => False) w3 w4 := Fr.of_below h4
  have ha := ha.keep hf (fun _ => id) (fun _ _ _ => id)
  have hb := hb.keep hf (fun _ => id) (fun _ _ _ => id)
  have hw := hw.trans (h4.mono hw.size)
  clear h4 hf
  go_wp2_with fail
  refine (rowText_any _ 0 v1 l _ ha).mono ?_
  rintro e w' ⟨rfl, rfl⟩
  go_wp2_with fail
  refine (rowText_any _ 0 v3 l _ hb).mono ?_
  rintro e w' ⟨rfl, rfl⟩
  go_wp2_with fail
  refine (rowLen_any _ 0 v1 l _ ha).mono ?_
  rintro e w' ⟨rfl, rfl⟩
  go_wp2_with fail
  refine (rowLen_any _ 0 v3 l _ hb).mono ?_
  rintro e w' ⟨rfl, rfl⟩
  go_wp2_with fail
  go_ret
  exact ⟨rfl, hw⟩

set_option maxHeartbeats 1000000 in
set_option maxRecDepth 10000 in
theorem split_7 (u : Nat) (hu : u < 18446744073709551616) (n : Int) (hn : -9223372036854775808 ≤ n ∧ n ≤ 9223372036854775807) (k : Int) (hk : -9223372036854775808 ≤ k ∧ k ≤ 9223372036854775807) (w : World) (hN : 64 < n) (hK : 0 ≤ k ∧ k ≤ 64) :
    Calls Try.prog 5 #[.int .u64 u, .int .i64 n, .int .i64 k] w (RetBelow w (.bool true)) := by
  have hle := clip_le
  have h2 := two_a w
  go_enter Try.func5, Try.ntmps5
  go_wp2_with fail
  refine (rowBits_any w.heap.size 0 _ [] u _ (two0 w) (by omega) (by omega) hu h2 (by simp)).mono ?_
  clear h2
  rintro e w1 e1
  obtain ⟨rfl, v1, h1⟩ := two_first e1
  clear e1
  go_wp2_with fail
  refine (rowBits_z (w.heap.size + 1) 0 _ [] _ _ w1 (by omega) (by omega) (by first | exact div_rg _ _ hu | omega) h1.b.at_ (by simp)).mono ?_
  rintro e w2 e2
  obtain ⟨rfl, v2, h2⟩ := h1.b.step e2
  clear e2
  go_wp2_with fail
  refine (rowBits_any (w.heap.size + 1) 0 _ _ u _ w2 (by omega) (by omega) hu h2.at_ (by have := hle 0; have := hle (k); simp only [List.length_append, bitsOf_length, List.length_nil]; omega)).mono ?_
  rintro e w3 e3
  obtain ⟨rfl, v3, h3⟩ := h2.step e3
  clear e3 h2
  rw [split_eq (N := 64) (K := k) (NK := 64 - k) (by omega) (by omega) (by omega) (by omega) (by first | rfl | simp)] at h3
  obtain ⟨ha, hb, hw⟩ := two_then h1 h3
  clear h1 h3
  obtain ⟨l, hl⟩ : ∃ l, l = [] ++ bitsOf u (clip (64)) := ⟨_, rfl⟩
  rw [← hl] at ha hb
  clear hl
  go_wp2_with fail
  refine (awake_any _).mono ?_
  rintro e w4 ⟨rfl, h4⟩
  have hf : Fr (fun _ _ => False) w3 w4 := Fr.of_below h4
  have ha := ha.keep hf (fun _ => id) (fun _ _ _ => id)
  have hb := hb.keep hf (fun _ => id) (fun _ _ _ => id)
  have hw := hw.trans (h4.mono hw.size)
  clear h4 hf
  go_wp2_with fail
  refine (rowText_any _ 0 v1 l _ ha).mono ?_
  rintro e w' ⟨rfl, rfl⟩
  go_wp2_with fail
  refine (rowText_any _ 0 v3 l _ hb).mono ?_
  rintro e w' ⟨rfl, rfl⟩
  go_wp2_with fail
  refine (rowLen_any _ 0 v1 l _ ha).mono ?_
  rintro e w' ⟨rfl, rfl⟩
  go_wp2_with fail
  refine (rowLen_any _ 0 v3 l _ hb).mono ?_
  rintro e w' ⟨rfl, rfl⟩
  go_wp2_with fail
  go_ret
  exact ⟨rfl, hw⟩

set_option maxHeartbeats 1000000 in
set_option maxRecDepth 10000 in
theorem split_8 (u : Nat) (hu : u < 18446744073709551616) (n : Int) (hn : -9223372036854775808 ≤ n ∧ n ≤ 9223372036854775807) (k : Int) (hk : -9223372036854775808 ≤ k ∧ k ≤ 9223372036854775807) (w : World) (hN : 64 < n) (hK : 64 < k) :
    Calls Try.prog 5 #[.int .u64 u, .int .i64 n, .int .i64 k] w (RetBelow w (.bool true)) := by
  have hle := clip_le
  have h2 := two_a w
  go_enter Try.func5, Try.ntmps5
  go_wp2_with fail
  refine (rowBits_any w.heap.size 0 _ [] u _ (two0 w) (by omega) (by omega) hu h2 (by simp)).mono ?_
  clear h2
  rintro e w1 e1
  obtain ⟨rfl, v1, h1⟩ := two_first e1
  clear e1
  go_wp2_with fail
  refine (rowBits_z (w.heap.size + 1) 0 _ [] _ _ w1 (by omega) (by omega) (by first | exact div_rg _ _ hu | omega) h1.b.at_ (by simp)).mono ?_
  rintro e w2 e2
  obtain ⟨rfl, v2, h2⟩ := h1.b.step e2
  clear e2
  go_wp2_with fail
  refine (rowBits_any (w.heap.size + 1) 0 _ _ u _ w2 (by omega) (by omega) hu h2.at_ (by have := hle 0; have := hle (64); simp only [List.length_append, bitsOf_length, List.length_nil]; omega)).mono ?_
  rintro e w3 e3
  obtain ⟨rfl, v3, h3⟩ := h2.step e3
  clear e3 h2
  rw [split_eq (N := 64) (K := 64) (NK := 0) (by omega) (by omega) (by omega) (by omega) (by first | rfl | simp)] at h3
  obtain ⟨ha, hb, hw⟩ := two_then h1 h3
  clear h1 h3
  obtain ⟨l, hl⟩ : ∃ l, l = [] ++ bitsOf u (clip (64)) := ⟨_, rfl⟩
  rw [← hl] at ha hb
  clear hl
  go_wp2_with fail
  refine (awake_any _).mono ?_
  rintro e w4 ⟨rfl, h4⟩
  have hf : Fr (fun _ _ => False) w3 w4 := Fr.of_below h4
  have ha := ha.keep hf (fun _ => id) (fun _ _ _ => id)
  have hb := hb.keep hf (fun _ => id) (fun _ _ _ => id)
  have hw := hw.trans (h4.mono hw.size)
  clear h4 hf
  go_wp2_with fail
  refine (rowText_any _ 0 v1 l _ ha).mono ?_
  rintro e w' ⟨rfl, rfl⟩
  go_wp2_with fail
  refine (rowText_any _ 0 v3 l _ hb).mono ?_
  rintro e w' ⟨rfl, rfl⟩
  go_wp2_with fail
  refine (rowLen_any _ 0 v1 l _ ha).mono ?_
  rintro e w' ⟨rfl, rfl⟩
  go_wp2_with fail
  refine (rowLen_any _ 0 v3 l _ hb).mono ?_
  rintro e w' ⟨rfl, rfl⟩
  go_wp2_with fail
  go_ret
  exact ⟨rfl, hw⟩

theorem bitrowSplit_walk (v : Int) (hv : (Lit.int .u64 v).wf = true) (n : Int) (hn : (Lit.int .i64 n).wf = true) (k : Int) (hk : (Lit.int .i64 k).wf = true) (w : World) :
    Calls Try.prog 5 #[.int .u64 v, .int .i64 n, .int .i64 k] w (RetBelow w (.bool true)) := by
  obtain ⟨u, rfl, hu⟩ : ∃ u : Nat, v = (u : Int) ∧ u < 18446744073709551616 := by
    have := bounds_u64 hv
    exact ⟨v.toNat, by omega, by omega⟩
  have hn := bounds_i64 hn
  have hk := bounds_i64 hk
  rcases Int.lt_or_le n 0 with a | a
  · rcases Int.lt_or_le k 0 with b | b
    · exact split_1 u hu n hn k hk w a b
    · rcases Int.lt_or_le 0 k with c | c
      · exact split_2 u hu n hn k hk w a c
      · obtain rfl : k = 0 := by omega
        exact split_9 u hu n hn w a
  · rcases Int.lt_or_le 64 n with c | c
    · rcases Int.lt_or_le k 0 with b | b
      · exact split_6 u hu n hn k hk w c b
      · rcases Int.lt_or_le 64 k with d | d
        · exact split_8 u hu n hn k hk w c d
        · exact split_7 u hu n hn k hk w c ⟨b, d⟩
    · rcases Int.lt_or_le k 0 with b | b
      · exact split_3 u hu n hn k hk w ⟨a, c⟩ b
      · rcases Int.lt_or_le n k with d | d
        · exact split_5 u hu n hn k hk w ⟨a, c⟩ d
        · exact split_4 u hu n hn k hk w ⟨a, c⟩ ⟨b, d⟩

set_option maxRecDepth 100000 in
theorem bitrowSplit_lifted (os : Os) (started : os.Started) (H : Type) (enc : TypeId × Value → H) :
    ReturnsInHanded {} Try.checked os 5 .any (Rows.bitrowSplitSpec.pre6 enc Try.prog Try.f5 Rows.bitrowSplitRow.domain false) (Rows.bitrowSplitSpec.post enc Try.prog Try.f5 false true false false) := by
  refine returnsInHanded_of_change_sized (C := Try.checked) law_own started (by kernel_rfl) Try.func5
    (ChangeSpec.witness6 (enc := enc) (C := Try.checked) false ⟨#[], #[.int .u64 0, .int .i64 0, .int .i64 0], []⟩ 8 (by kernel_rfl) (by kernel_rfl) (by kernel_rfl) (by kernel_rfl)) ?_
  intro W base args ds gs before hval0 hW _ hsz0 _
  have hval : ∀ (j : Nat) t v, Try.f5.params[j]? = some t → args[j]? = some v → Value.okWide Try.prog W .any base t v := hval0
  have hsz : (DataW.weightsEach Try.prog (Try.f5.params.toList ++ Rows.bitrowSplitSpec.plain.varTypes Try.prog) (ds ++ gs)).all (· ≤ reachBytes) = true := hsz0
  have hW' := hW
  obtain ⟨p, q, hA0, hV, rfl, _, _⟩ := hW
  have hA : DataW.TrodAll enc Try.prog W 0 (fun _ => true) true Try.f5.params.toList args.toList ds p := hA0
  rw [Try.params5] at hA hval hsz
  obtain ⟨v0, vs0, d0, ds0, p0, q0, hargs, rfl, rfl, h0, r0⟩ := trodAll_cons hA
  obtain ⟨v1, vs1, d1, ds1, p1, q1, rfl, rfl, rfl, h1, r1⟩ := trodAll_cons r0
  obtain ⟨v2, vs2, d2, ds2, p2, q2, rfl, rfl, rfl, h2, r2⟩ := trodAll_cons r1
  obtain ⟨rfl, rfl, rfl⟩ := trodAll_nil r2
  obtain rfl : args = #[v0, v1, v2] := by cases args; simp_all
  obtain ⟨rfl, rfl⟩ := trodVars_none hV
  obtain ⟨a0, rfl, rfl, rfl, w0⟩ := open_int Try.underlying30 (hval 0 30 v0 rfl rfl) h0
  obtain ⟨a1, rfl, rfl, rfl, w1⟩ := open_int Try.underlying3 (hval 1 3 v1 rfl rfl) h1
  obtain ⟨a2, rfl, rfl, rfl, w2⟩ := open_int Try.underlying3 (hval 2 3 v2 rfl rfl) h2
  refine (bitrowSplit_walk a0 w0 a1 w1 a2 w2 W).mono fun e W' ⟨he, hb⟩ => ?_
  subst he
  exact ⟨_, rfl, law_post law_laid (by intro t ht; rw [Try.params5] at ht; simp only [List.mem_cons, List.not_mem_nil, or_false] at ht; rcases ht with rfl | rfl | rfl <;> exact ⟨by kernel_rfl, of_decide_eq_true (by kernel_rfl)⟩) rfl Try.underlying4 rfl rfl hW' hb⟩

theorem bitrowSplit_holds : Rows.BitrowSplitSaid :=
  OpenClaim.holds_of_wide 5 Try.f5 rfl rfl rfl rfl rfl rfl rfl ⟨rfl, rfl, rfl, rfl, rfl⟩ rfl rfl rfl rfl rfl (by kernel_rfl) Try.func5 (by kernel_rfl)
    (of_decide_eq_true (by kernel_rfl)) (by unfold Func.isWrapper; first | (rw [if_pos (by decide +kernel)]; kernel_rfl) | (rw [if_neg (by decide +kernel)]; exact ⟨rfl, rfl⟩))
    (fun os started H enc _ => bitrowSplit_lifted os started H enc)

end Go.Proofs.Ythgkcmmjdgginaa
