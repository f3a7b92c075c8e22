/-
  Layer 8: the walks of ident's functions.
-/
import Derived.Test.YtemmgejaoegpfaaZIdtM
import Derived.Test.YtemmgejaoegpfaaZLebR
import Derived.Test.YtemmgejaoegpfaaZLib2
import Derived.Test.YtemmgejaoegpfaaZLib5
import Derived.Lib.Bytealg
import Derived.Lib.Strings
import Derived.BigQuiet
import Derived.Deep.QuietTactic

namespace Go.Proofs.Ytemmgejaoegpfaa
open Go.RowKit Go.Bar Go.Bar.Idt

/-- a text, cut at a byte -/
def cutAt (c : UInt8) (l : List UInt8) : List UInt8 × List UInt8 × Bool := if Lib.indexByte l c < 0 then (l, [], false) else (l.take (Lib.indexByte l c).toNat, l.drop ((Lib.indexByte l c).toNat + 1), true)

theorem signs_index (z : Int) (k : Nat) (hz : z = k) (h : k < 32) (w : World) : (Instr.index 9 (.string { data := #[48, 49, 50, 51, 52, 53, 54, 55, 56, 57, 97, 98, 99, 100, 101, 102, 103, 104, 106, 107, 109, 110, 112, 113, 114, 115, 116, 118, 119, 120, 121, 122] }) (.int .i64 z)).run Try.prog w = .ok (.int .u8 ((sgn k).toNat : Int)) w :=
  index_bs Try.underlying9 .i64 signs z k (sgn k) hz (by
    unfold sgn
    rw [List.getD_eq_getElem?_getD, List.getElem?_eq_getElem (by rw [signs_length]; exact h)]
    rfl) w
theorem sgn_get (k : Nat) (h : k < (bs signs).size) : (bs signs)[k]'h = sgn k := by
  unfold sgn
  rw [List.getD_eq_getElem?_getD, List.getElem?_eq_getElem h]
  rfl
theorem and31 (n : Nat) (h : n < 9223372036854775808) : bits .and .i64 (n : Int) 31 = ((n % 32 : Nat) : Int) := by
  have := i64_and_nat n 31 h (by omega)
  rw [show n &&& 31 = n % 2 ^ 5 from Nat.and_two_pow_sub_one_eq_mod n 5] at this
  exact this
theorem bcs_set (l : List UInt8) (i : Nat) (c : UInt8) : bcs (l.set i c) = (bcs l).set i (.int .u8 (c.toNat : Int)) := List.map_set

set_option maxHeartbeats 1000000 in
set_option maxRecDepth 10000 in
theorem digits_any (n : Nat) (w : World) (hn : n < 1099511627776) :
    Calls Try.prog 32 #[.int .i64 n] w (RetBelow w (.string (bs (dg 8 n)))) := by
  go_enter Try.func32, Try.ntmps32
  go_wp2_with fail
  go_loopw [0, 4] (fun m i wr => ∃ (q k : Nat) (l : List UInt8), q ≤ 8 ∧ (q = 0 ∧ i = .int .i64 (-1) ∨ ∃ p, q = p + 1 ∧ i = .int .i64 (p : Int)) ∧ m = .int .i64 k ∧ k < 1099511627776 ∧ l.length = 8 ∧ Buf wr 93 1 (.slice (some ⟨w.heap.size, 0, none⟩) 8 8) 8 (bcs l) ∧ Below w.heap.size w wr ∧ Hid (k = n / 32 ^ (8 - q) ∧ l.drop q = dg (8 - q) n))
    (fun _ i _ => (intOf i + 1).toNat)
  case atStart => exact ⟨8, n, List.replicate 8 0, Nat.le_refl _, .inr ⟨7, rfl, rfl⟩, rfl, hn, rfl, Buf.lit w _ 1 8 [.int .u8 0, .int .u8 0, .int .u8 0, .int .u8 0, .int .u8 0, .int .u8 0, .int .u8 0, .int .u8 0] rfl (by decide), (Below.refl _ _).alloc (Nat.le_refl _) _, (by simp : n = n / 32 ^ 0), rfl⟩
  case round =>
    obtain ⟨q, k, l, hq, hi, rfl, hk, hll, hb, hbl, HK⟩ := hrel
    rcases hi with ⟨rfl, rfl⟩ | ⟨p, rfl, rfl⟩
    · have hl : l = dg 8 n := HK.out.2
      have hsl : SlAt wr 1 (.slice (some ⟨w.heap.size, 0, none⟩) l.length 8) l.length (bcs l) := by rw [hll]; exact SlAt.of_buf hb
      have hcv := hsl.string bytes_ty 9 Try.underlying9
      rw [hll] at hcv
      have HL := Lib.hid hl
      clear hsl hl hb
      go_wp2_with fail
      go_ret
      rw [← HL.out]
      exact ⟨rfl, hbl⟩
    · have hand := and31 k (by omega)
      have h32 : k % 32 < (bs signs).size := by rw [bs_size, signs_length]; omega
      have hst := Buf.store hb (j := p) (by omega) (.int .u8 (((bs signs)[k % 32]'h32).toNat : Int))
      obtain ⟨hc1, hc2⟩ := hb.cellAt (j := p) (by omega)
      rw [Nat.zero_add] at hst hc1 hc2
      rw [List.getElem?_eq_getElem (by rw [bcs_length]; omega)] at hc1
      have H32 := Lib.hid h32
      have HST := Lib.hid hst
      clear hb hst
      go_wp2_with fail
      go_roundw
      case rel =>
        refine ⟨p, k / 32, l.set p (sgn (k % 32)), by omega, ?_, by go_num, by omega, by rw [List.length_set]; exact hll, by rw [bcs_set, ← sgn_get _ H32.out]; exact HST.out, hbl.setCell (by simp) _, ?_, ?_⟩
        · rcases p with _ | p
          · exact .inl ⟨rfl, rfl⟩
          · exact .inr ⟨p, rfl, by go_num⟩
        · show k / 32 = n / 32 ^ (8 - p)
          have e8 : 8 - p = (8 - (p + 1)) + 1 := by omega
          rw [HK.out.1, Nat.div_div_eq_div_mul, ← Nat.pow_succ, e8]
        · show (l.set p (sgn (k % 32))).drop p = dg (8 - p) n
          have e8 : 8 - p = (8 - (p + 1)) + 1 := by omega
          have e9 := List.drop_eq_getElem_cons (l := l.set p (sgn (k % 32))) (i := p) (by rw [List.length_set]; omega)
          rw [e8, dg_cons, ← HK.out.2, ← HK.out.1, e9, List.getElem_set_self, List.drop_set_of_lt (by omega)]
      case measure => simp [intOf]

/-- what number returns -/
def numV : Option Nat → Value
  | some v => .tuple #[.int .i64 (v : Int), .bool true]
  | none => .tuple #[.int .i64 0, .bool false]
theorem or_low (a k : Nat) (hk : k < 32) (ha : a < 34359738368) : bits .or .i64 ((a : Int) * 32) (k : Int) = ((32 * a + k : Nat) : Int) := by
  have h1 := i64_or_nat (a * 32) k (by omega) (by omega)
  rw [show (((a * 32 : Nat)) : Int) = (a : Int) * 32 by omega] at h1
  rw [h1]
  have h2 := Nat.two_pow_add_eq_or_of_lt (i := 5) (show k < 2 ^ 5 by omega) a
  rw [show a * 32 = 2 ^ 5 * a by omega, ← h2]
theorem num_acc : ∀ (l : List UInt8) (acc v : Nat), num acc l = some v → acc ≤ v
  | [], acc, v, h => by simp [num] at h; omega
  | c :: l, acc, v, h => by
    rw [num] at h
    by_cases hc : ix c < 0
    · rw [if_pos hc] at h; cases h
    · rw [if_neg hc] at h
      have := num_acc l _ v h
      omega

/-- what Make returns -/
def okT (n : Int) : Prop := 0 ≤ n ∧ n < 1099511627776

theorem digits_int (t : Int) (w : World) (h1 : 0 ≤ t) (h2 : t < 1099511627776) :
    Calls Try.prog 32 #[.int .i64 t] w (RetBelow w (.string (bs (dg 8 t.toNat)))) := by
  obtain ⟨n, rfl⟩ := Int.eq_ofNat_of_zero_le h1
  exact digits_any n w (by omega)

set_option maxHeartbeats 1000000 in
set_option maxRecDepth 10000 in
theorem make_ok (t s : Int) (w : World) (ht : okT t) (hs : okT s) :
    Calls Try.prog 19 #[.int .i64 t, .int .i64 s] w (RetBelow w (.tuple #[.string (bs (mk t.toNat s.toNat)), .int .i64 0])) := by
  obtain ⟨ht1, ht2⟩ := ht
  obtain ⟨hs1, hs2⟩ := hs
  obtain ⟨x, hx⟩ : ∃ x, dg 8 t.toNat = x := ⟨_, rfl⟩
  obtain ⟨y, hy⟩ : ∃ y, dg 8 s.toNat = y := ⟨_, rfl⟩
  have hl : x.length ≤ 8 ∧ y.length ≤ 8 := by rw [← hx, ← hy, dg_length, dg_length]; omega
  obtain ⟨hl1, hl2⟩ := hl
  have hnl : ¬ 9223372036854775807 < x.length + y.length := by omega
  have H1 := digits_int t
  have H2 := digits_int s
  rw [hx] at H1
  rw [hy] at H2
  have HM : mk t.toNat s.toNat = x ++ y := by rw [mk, hx, hy]
  rw [HM]
  have G1 := Lib.hid H1
  have G2 := Lib.hid H2
  clear H1 H2 HM hx hy
  go_enter Try.func19, Try.ntmps19
  go_wp2_with fail
  refine (G1.out _ ht1 ht2).mono ?_
  rintro e w1 ⟨rfl, hb1⟩
  go_wp2_with fail
  refine (G2.out _ hs1 hs2).mono ?_
  rintro e w2 ⟨rfl, hb2⟩
  go_wp2_with fail
  go_ret2
  exact ⟨rfl, below_trans hb1 hb2⟩

set_option maxHeartbeats 1000000 in
set_option maxRecDepth 10000 in
theorem make_bad (t s : Int) (w : World) (h : ¬ (okT t ∧ okT s)) :
    Calls Try.prog 19 #[.int .i64 t, .int .i64 s] w fun e w' => e = .returned (.tuple #[.string (bs []), .int .i64 1]) ∧ w = w' := by
  unfold okT at h
  have hc : t < 0 ∨ (0 ≤ t ∧ 1099511627776 ≤ t) ∨ (0 ≤ t ∧ t < 1099511627776 ∧ s < 0) ∨ (0 ≤ t ∧ t < 1099511627776 ∧ 0 ≤ s ∧ 1099511627776 ≤ s) := by omega
  clear h
  rcases hc with h1 | ⟨h1, h2⟩ | ⟨h1, h2, h3⟩ | ⟨h1, h2, h3, h4⟩
  all_goals
    go_enter Try.func19, Try.ntmps19
    go_wp2_with fail
    go_ret2
    exact ⟨rfl, rfl⟩

/-- what Parse returns -/
def parseV : Option (Nat × Nat) → Value
  | some (t, s) => .tuple #[.int .i64 (t : Int), .int .i64 (s : Int), .int .i64 0]
  | none => .tuple #[.int .i64 0, .int .i64 0, .int .i64 3]

/-- what Split returns -/
def splitV : Option (List UInt8 × List UInt8) → Value
  | some (a, b) => .tuple #[.string (bs a), .string (bs b), .bool true]
  | none => .tuple #[.string (bs []), .string (bs []), .bool false]
theorem index_first : ∀ (l : List UInt8) (c : UInt8) (k : Nat), Lib.indexByte l c = k → c ∉ l.take k
  | [], c, k, h => by simp
  | b :: l, c, k, h => by
    unfold Lib.indexByte at h
    by_cases hb : b = c
    · rw [if_pos (by simpa using hb)] at h
      have : k = 0 := by omega
      subst this
      simp
    · rw [if_neg (by simpa using hb)] at h
      rcases index_of l c with ⟨g1, _⟩ | ⟨m, g1, _⟩
      · rw [g1] at h
        simp at h
      · rw [g1] at h
        have h0 : k = m + 1 := by
          simp at h
          omega
        subst h0
        rw [List.take_succ_cons, List.mem_cons]
        rintro (h1 | h1)
        · exact hb h1.symm
        · exact index_first l c m g1 h1
theorem index_at (l : List UInt8) (c : UInt8) (k : Nat) (h1 : l[k]? = some c) (h2 : c ∉ l.take k) : Lib.indexByte l c = k := by
  rcases index_of l c with ⟨h3, h4⟩ | ⟨j, h3, h4⟩
  · exact absurd (List.mem_of_getElem? h1) h4
  · have h5 := index_first l c j h3
    rcases Nat.lt_trichotomy j k with h | h | h
    · exact absurd (List.mem_take_iff_getElem.2 ⟨j, by have := (List.getElem?_eq_some_iff.1 h4).1; omega, (List.getElem?_eq_some_iff.1 h4).2⟩) h2
    · rw [h3, h]
    · exact absurd (List.mem_take_iff_getElem.2 ⟨k, by have := (List.getElem?_eq_some_iff.1 h1).1; omega, (List.getElem?_eq_some_iff.1 h1).2⟩) h5
/-- an object's name, cut at its slash -/
theorem split_cut (l : List UInt8) : split l = if (cutAt 47 l).2.2 = true ∧ (parse (cutAt 47 l).1).isSome = true ∧ (cutAt 47 l).2.1 ∈ parts then some ((cutAt 47 l).1, (cutAt 47 l).2.1) else none := by
  unfold split cutAt
  rcases index_of l 47 with ⟨h1, h2⟩ | ⟨k, h1, h2⟩
  · rw [h1, if_pos (show (-1 : Int) < 0 by omega)]
    rw [if_neg (fun h => ?_), if_neg (fun h => by cases h.1)]
    exact h2 (List.mem_of_getElem? h.2.1)
  · rw [h1, if_neg (show ¬ (k : Int) < 0 by omega), Int.toNat_natCast]
    have hkl := (List.getElem?_eq_some_iff.1 h2).1
    by_cases hk : k = 16
    · subst hk
      simp only [true_and]
      have : (17 ≤ l.length ∧ l[16]? = some 47 ∧ (parse (l.take 16)).isSome = true ∧ l.drop 17 ∈ parts) ↔ ((parse (l.take 16)).isSome = true ∧ l.drop (16 + 1) ∈ parts) := ⟨fun h => ⟨h.2.2.1, h.2.2.2⟩, fun h => ⟨by omega, h2, h.1, h.2⟩⟩
      by_cases hc : (parse (l.take 16)).isSome = true ∧ l.drop (16 + 1) ∈ parts
      · rw [if_pos (this.2 hc), if_pos hc]
      · rw [if_neg (fun h => hc (this.1 h)), if_neg hc]
    · rw [if_neg (fun h => ?_), if_neg (fun h => ?_)]
      · have := (parse_slash _ h.2.1).2
        rw [List.length_take] at this
        omega
      · have h3 := (parse_slash _ h.2.2.1).1
        have := index_at l 47 16 h.2.1 h3
        omega

end Go.Proofs.Ytemmgejaoegpfaa
