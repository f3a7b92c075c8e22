/-
  Layer 3: the laws' things: small, put; an argument of things.
-/
import Derived.Test.YthgkcmmjdgginaaBitW
import Derived.Deep.Slices
import Derived.Deep.Fields
import Derived.ChangeSame
import Derived.OpenShut
import Derived.Handy
namespace Go.Proofs.Ythgkcmmjdgginaa
open Go.RowKit Go.Bar Go.Bar.Bit

/-- a thing that is written or taken -/
structure Th where
  kind : Int
  n : Int
  m : Int
  v : Nat
  is : Bool
def Th.val (t : Th) : Value := .agg #[.int .i64 t.kind, .int .i64 t.n, .int .i64 t.m, .int .u64 t.v, .bool t.is]
structure Th.ok (t : Th) : Prop where
  k : -9223372036854775808 ≤ t.kind ∧ t.kind ≤ 9223372036854775807
  n : -9223372036854775808 ≤ t.n ∧ t.n ≤ 9223372036854775807
  m : -9223372036854775808 ≤ t.m ∧ t.m ≤ 9223372036854775807
  v : t.v < 18446744073709551616
def Th.small (t : Th) : Th := { t with n := min t.n 70, m := min t.m 30 }
theorem Th.small_ok {t : Th} (h : t.ok) : t.small.ok := ⟨h.k, by have := h.n; simp only [Th.small]; omega, by have := h.m; simp only [Th.small]; omega, h.v⟩
/-- a thing's bits -/
def Th.bits (t : Th) : List Bool := if t.kind = 1 then [t.is] else if t.kind = 2 then bitsOf t.v (clip t.n) else if t.kind = 3 then unary t.n t.m else []

set_option maxHeartbeats 1000000 in
set_option maxRecDepth 10000 in
theorem small_any (t : Th) (W : World) :
    Calls Try.prog 11 #[t.val] W (RetBelow W t.small.val) := by
  obtain ⟨kd, n, m, v, is⟩ := t
  simp only [Th.val, Th.small]
  rcases Int.lt_or_le 70 n with hn | hn <;> rcases Int.lt_or_le 30 m with hm | hm
  all_goals
    go_enter Try.func11, Try.ntmps11
    go_wp2_with fail
    first
    | go_returns
      refine ⟨?_, ((Below.refl _ _).alloc (Nat.le_refl _) _).alloc (by simp) _⟩
      try rw [Int.min_eq_right (Int.le_of_lt hn)]
      try rw [Int.min_eq_right (Int.le_of_lt hm)]
      try rw [Int.min_eq_left hn]
      try rw [Int.min_eq_left hm]

theorem RowCh.then_below {w : World} {b : Nat} {v : Value} {w' w'' : World} {v' : Value} {l : List Bool} (h : RowCh w b 0 v w' v' l) (hb : Below w'.heap.size w' w'') : RowCh w b 0 v w'' v' l := by
  have hf : Fr (fun _ _ => False) w' w'' := Fr.of_below hb
  exact ⟨h.at_.keep hf (fun _ => id) (fun _ _ _ => id), h.fr.then_below hb, h.mv⟩
theorem RowNew.of_ch {w0 w w' : World} {b : Nat} {v v' : Value} {l l' : List Bool} (h : RowNew w0 w b v l) (hc : RowCh w b 0 v w' v' l') : RowNew w0 w' b v' l' := by
  obtain ⟨_, v'', h'⟩ := h.step hc.to
  refine ⟨hc.at_, h'.below, h.b_new, ?_⟩
  intro k hk
  rcases hc.mv with e1 | ⟨g, e1, hg⟩
  · exact h.v_new k (by rw [← e1]; exact hk)
  · rw [e1] at hk; injection hk with hk
    have := h.below.size
    omega

/-- what put leaves: the row has grown by the bits; the bits as a list -/
def PutTo (w : World) (b : Nat) (v : Value) (l bits : List Bool) (e : Ending) (w' : World) : Prop :=
  ∃ s v', e = .returned s ∧ Buf w' 4 1 s bits.length (bls bits) ∧ RowCh w b 0 v w' v' (l ++ bits)

theorem PutTo.of_bools {w w1 w2 : World} {b : Nat} {v v' : Value} {l bits : List Bool} {e : Ending} (hc : RowCh w b 0 v w1 v' (l ++ bits)) (h : RetBools w1 bits e w2) : PutTo w b v l bits e w2 := by
  obtain ⟨s, he, hs, hb⟩ := h
  exact ⟨s, v', he, hs.buf, hc.then_below hb⟩

theorem box_keep {w w1 : World} {b : Nat} {v : Value} {l l' : List Bool} {e : Ending} {cs : Array Value} {t : TypeId} (h : RowAt w b 0 v l) (h' : RowTo (w.alloc (.cells cs t)) b 0 v l' e w1) (i : Nat) (x : Value) (hx : cs[i]? = some x) : w1.cell? ⟨w.heap.size, i, none⟩ = some x := by
  obtain ⟨v', _, _, hf, _⟩ := h'
  have hb := World.block_lt_of_cell? _ _ h.c0
  refine hf.cell (by rw [World.cell?_alloc_new]; exact hx) ?_
  rintro (⟨e1, _⟩ | hv)
  · simp only at hb; omega
  · exact absurd (h.lt _ hv) (by omega)

set_option maxHeartbeats 1000000 in
set_option maxRecDepth 10000 in
theorem put_1 (n m : Int) (u : Nat) (is : Bool) (b : Nat) (v : Value) (l : List Bool) (w : World) (h : RowAt w b 0 v l) (hn : l.length < 1000000000) :
    Calls Try.prog 10 #[.pointer (some ⟨b, 0, none⟩), (Th.mk 1 n m u is).val] w (PutTo w b v l [is]) := by
  simp only [Th.val]
  have hbig := fun l' e w1 => box_keep (l' := l') (e := e) (w1 := w1) (cs := #[.int .i64 1, .int .i64 n, .int .i64 m, .int .u64 u, .bool is]) (t := 32) h
  have h0 := (RowCh.refl h).then_below ((Below.refl _ _).alloc (Nat.le_refl _) (.cells #[.int .i64 1, .int .i64 n, .int .i64 m, .int .u64 u, .bool is] 32))
  clear h
  go_enter Try.func10, Try.ntmps10
  go_wp2_with fail
  refine (rowBit_any b 0 v l is _ h0.at_ (by omega)).mono ?_
  rintro e w1 e1
  have d1 := hbig _ _ _ e1 1 _ rfl
  have d2 := hbig _ _ _ e1 2 _ rfl
  have d3 := hbig _ _ _ e1 3 _ rfl
  have d4 := hbig _ _ _ e1 4 _ rfl
  obtain ⟨rfl, v1, h1⟩ := h0.step e1
  clear e1 h0 hbig
  go_wp2_with fail
  go_ret
  exact ⟨_, v1, rfl, Buf.lit w1 4 1 1 [.bool is] rfl (by decide), h1.then_below ((Below.refl _ _).alloc (Nat.le_refl _) _)⟩

set_option maxHeartbeats 1000000 in
set_option maxRecDepth 10000 in
theorem put_2 (n m : Int) (u : Nat) (is : Bool) (b : Nat) (v : Value) (l : List Bool) (w : World) (h : RowAt w b 0 v l) (hn : l.length < 1000000000) (hn1 : -9223372036854775808 ≤ n) (hn2 : n ≤ 9223372036854775807) (hu : u < 18446744073709551616) :
    Calls Try.prog 10 #[.pointer (some ⟨b, 0, none⟩), (Th.mk 2 n m u is).val] w (PutTo w b v l (bitsOf u (clip n))) := by
  simp only [Th.val]
  have hbig := fun l' e w1 => box_keep (l' := l') (e := e) (w1 := w1) (cs := #[.int .i64 2, .int .i64 n, .int .i64 m, .int .u64 u, .bool is]) (t := 32) h
  have h0 := (RowCh.refl h).then_below ((Below.refl _ _).alloc (Nat.le_refl _) (.cells #[.int .i64 2, .int .i64 n, .int .i64 m, .int .u64 u, .bool is] 32))
  clear h
  go_enter Try.func10, Try.ntmps10
  go_wp2_with fail
  refine (rowBits_any b 0 v l u n _ hn1 hn2 hu h0.at_ (by omega)).mono ?_
  rintro e w1 e1
  have d1 := hbig _ _ _ e1 1 _ rfl
  have d2 := hbig _ _ _ e1 2 _ rfl
  have d3 := hbig _ _ _ e1 3 _ rfl
  have d4 := hbig _ _ _ e1 4 _ rfl
  obtain ⟨rfl, v1, h1⟩ := h0.step e1
  clear e1 h0 hbig
  go_wp2_with fail
  refine (refBits_any u n _ hn1 hn2 hu).mono ?_
  rintro e w2 e2
  obtain ⟨s, v', rfl, hs, hc⟩ := PutTo.of_bools h1 e2
  clear e2 h1
  go_wp2_with fail
  go_ret
  exact ⟨_, v', rfl, hs, hc⟩

set_option maxHeartbeats 1000000 in
set_option maxRecDepth 10000 in
theorem put_3 (n m : Int) (u : Nat) (is : Bool) (b : Nat) (v : Value) (l : List Bool) (w : World) (h : RowAt w b 0 v l) (hn : l.length < 1000000000) (hn1 : -9223372036854775808 ≤ n) (hn2 : n ≤ 9223372036854775807) (hm1 : -9223372036854775808 ≤ m) (hm2 : m ≤ 100000) :
    Calls Try.prog 10 #[.pointer (some ⟨b, 0, none⟩), (Th.mk 3 n m u is).val] w (PutTo w b v l (unary n m)) := by
  simp only [Th.val]
  have hbig := fun l' e w1 => box_keep (l' := l') (e := e) (w1 := w1) (cs := #[.int .i64 3, .int .i64 n, .int .i64 m, .int .u64 u, .bool is]) (t := 32) h
  have h0 := (RowCh.refl h).then_below ((Below.refl _ _).alloc (Nat.le_refl _) (.cells #[.int .i64 3, .int .i64 n, .int .i64 m, .int .u64 u, .bool is] 32))
  clear h
  go_enter Try.func10, Try.ntmps10
  go_wp2_with fail
  refine (rowUnary_any b 0 v l n m _ hn1 hn2 hm1 hm2 h0.at_ (by omega)).mono ?_
  rintro e w1 e1
  have d1 := hbig _ _ _ e1 1 _ rfl
  have d2 := hbig _ _ _ e1 2 _ rfl
  have d3 := hbig _ _ _ e1 3 _ rfl
  have d4 := hbig _ _ _ e1 4 _ rfl
  obtain ⟨rfl, v1, h1⟩ := h0.step e1
  clear e1 h0 hbig
  go_wp2_with fail
  refine (refUnary_any n m _ hn1 hn2 hm1 hm2).mono ?_
  rintro e w2 e2
  obtain ⟨s, v', rfl, hs, hc⟩ := PutTo.of_bools h1 e2
  clear e2 h1
  go_wp2_with fail
  go_ret
  exact ⟨_, v', rfl, hs, hc⟩

set_option maxHeartbeats 1000000 in
set_option maxRecDepth 10000 in
theorem put_0 (kd n m : Int) (u : Nat) (is : Bool) (b : Nat) (v : Value) (l : List Bool) (w : World) (h : RowAt w b 0 v l) (hn : l.length < 1000000000) (k1 : (kd == 1) = false) (k2 : (kd == 2) = false) (k3 : (kd == 3) = false) :
    Calls Try.prog 10 #[.pointer (some ⟨b, 0, none⟩), (Th.mk kd n m u is).val] w (PutTo w b v l []) := by
  simp only [Th.val]
  have hbig := fun l' e w1 => box_keep (l' := l') (e := e) (w1 := w1) (cs := #[.int .i64 kd, .int .i64 n, .int .i64 m, .int .u64 u, .bool is]) (t := 32) h
  have h0 := (RowCh.refl h).then_below ((Below.refl _ _).alloc (Nat.le_refl _) (.cells #[.int .i64 kd, .int .i64 n, .int .i64 m, .int .u64 u, .bool is] 32))
  clear h
  clear hbig
  go_enter Try.func10, Try.ntmps10
  go_wp2_with fail
  go_ret
  exact ⟨_, v, rfl, Buf.nil _ _ _, by rw [List.append_nil]; exact h0⟩

/-- A THING IS PUT -/
theorem put_any (t : Th) (ht : t.ok) (hm : t.m ≤ 100000) (b : Nat) (v : Value) (l : List Bool) (w : World) (h : RowAt w b 0 v l) (hn : l.length < 1000000000) :
    Calls Try.prog 10 #[.pointer (some ⟨b, 0, none⟩), t.val] w (PutTo w b v l t.bits) := by
  obtain ⟨kd, n, m, u, is⟩ := t
  obtain ⟨hk, hn', hm', hu⟩ := ht
  simp only [] at hk hn' hm' hu hm
  unfold Th.bits
  simp only []
  by_cases h1 : kd = 1
  · subst h1; rw [if_pos rfl]; exact put_1 n m u is b v l w h hn
  rw [if_neg h1]
  by_cases h2 : kd = 2
  · subst h2; rw [if_pos rfl]; exact put_2 n m u is b v l w h hn hn'.1 hn'.2 hu
  rw [if_neg h2]
  by_cases h3 : kd = 3
  · subst h3; rw [if_pos rfl]; exact put_3 n m u is b v l w h hn hn'.1 hn'.2 hm'.1 hm
  rw [if_neg h3]
  exact put_0 kd n m u is b v l w h hn (by simpa using h1) (by simpa using h2) (by simpa using h3)

end Go.Proofs.Ythgkcmmjdgginaa
