/-
  Plain mathematics of layer 7 (xor): samples as bits, and back. No program in sight; no condition.
-/
import Derived.Test.YtgabmfibfikdbaaGreatDoorZBitM
import Derived.Test.YtgabmfibfikdbaaGreatDoorZMrgS
import Derived.Lib.Bytealg

namespace Go.Bar.Xor
open Go.RowKit Go.Bar Go.Bar.Bit Go.Bar.Leb

def wd (k : Nat) : Nat := if k = 0 then 0 else if k = 1 then 7 else if k = 2 then 12 else if k = 3 then 20 else 64
def kind (u : Nat) : Nat := if width u ≤ 0 then 0 else if width u ≤ 7 then 1 else if width u ≤ 12 then 2 else if width u ≤ 20 then 3 else 4
def timeB (u : Nat) : List Bool := unary (kind u : Nat) 4 ++ bitsOf u (wd (kind u))
def tz (x : Nat) : Nat := if x = 0 ∨ x % 2 = 1 then 0 else tz (x / 2) + 1
  termination_by x
  decreasing_by omega
theorem tz_odd {x : Nat} (h : x % 2 = 1) : tz x = 0 := by rw [tz, if_pos (.inr h)]
theorem tz_even {x : Nat} (h0 : 0 < x) (h : x % 2 = 0) : tz x = tz (x / 2) + 1 := by rw [tz, if_neg (by omega)]
theorem tz_spec : ∀ x : Nat, 0 < x → 2 ^ tz x ∣ x ∧ x / 2 ^ tz x % 2 = 1 ∧ tz x < width x := by
  intro x
  induction x using Nat.strongRecOn with
  | _ x ih =>
    intro h0
    rcases Nat.mod_two_eq_zero_or_one x with h | h
    · obtain ⟨h1, h2, h3⟩ := ih (x / 2) (by omega) (by omega)
      rw [tz_even h0 h, width_pos x h0]
      refine ⟨?_, ?_, by omega⟩
      · rw [Nat.pow_succ, Nat.mul_comm]
        obtain ⟨c, hc⟩ := h1
        exact ⟨c, by rw [Nat.mul_assoc, ← hc]; omega⟩
      · rw [Nat.pow_succ, Nat.mul_comm, ← Nat.div_div_eq_div_mul]
        exact h2
    · rw [tz_odd h, width_pos x h0]
      simp [h]
theorem tz_low : ∀ (x j : Nat), j < tz x → x / 2 ^ j % 2 = 0 := by
  intro x
  induction x using Nat.strongRecOn with
  | _ x ih =>
    intro j hj
    by_cases h0 : x = 0 ∨ x % 2 = 1
    · rw [tz, if_pos h0] at hj; omega
    · rw [tz, if_neg h0] at hj
      rcases j with _ | j
      · simp; omega
      · rw [Nat.pow_succ, Nat.mul_comm, ← Nat.div_div_eq_div_mul]
        exact ih (x / 2) (by omega) j (by omega)

def fitW (lead wide x : Nat) : Prop := 0 < wide ∧ lead ≤ 64 - width x ∧ 64 - lead - wide ≤ tz x
instance (lead wide x : Nat) : Decidable (fitW lead wide x) := by unfold fitW; exact inferInstance
def valL (lead wide x : Nat) : Nat := if x = 0 ∨ fitW lead wide x then lead else 64 - width x
def valW (lead wide x : Nat) : Nat := if x = 0 ∨ fitW lead wide x then wide else width x - tz x
def valB (lead wide x : Nat) : List Bool :=
  if x = 0 then [false]
  else if fitW lead wide x then [true] ++ ([false] ++ bitsOf (x / 2 ^ (64 - lead - wide)) wide)
  else [true] ++ ([true] ++ (bitsOf (64 - width x) 6 ++ (bitsOf (width x - tz x - 1) 6 ++ bitsOf (x / 2 ^ tz x) (width x - tz x))))

structure St where
  bits : List Bool
  n : Nat
  t : Int
  v : Nat
  step : Int
  lead : Nat
  wide : Nat
def St.zero : St := ⟨[], 0, 0, 0, 0, 0, 0⟩
def St.put (s : St) (x : Sm) : St :=
  if s.n = 0 then ⟨s.bits ++ bitsOf x.1.toNat 41 ++ bitsOf x.2 64, 1, x.1, x.2, s.step, s.lead, s.wide⟩
  else ⟨s.bits ++ timeB (fold (x.1 - s.t - s.step)) ++ valB s.lead s.wide (x.2 ^^^ s.v), s.n + 1, x.1, x.2, x.1 - s.t, valL s.lead s.wide (x.2 ^^^ s.v), valW s.lead s.wide (x.2 ^^^ s.v)⟩
def err (s : St) (x : Sm) : Nat := if x.1 < 0 ∨ 1099511627776 < x.1 then 1 else if 0 < s.n ∧ x.1 ≤ s.t then 10 else if s.n = 120 then 7 else 0
def text (s : St) : List UInt8 := u s.n ++ (u s.bits.length ++ pack s.bits)
def ofS : St → List Sm → St × Nat
  | s, [] => (s, 0)
  | s, x :: l => if err s x = 0 then ofS (s.put x) l else (s, err s x)

structure St.Ok (s : St) : Prop where
  n : s.n ≤ 120
  t : 0 ≤ s.t ∧ s.t ≤ 1099511627776
  v : s.v < 18446744073709551616
  step : 0 ≤ s.step ∧ s.step ≤ 1099511627776
  win : s.lead + s.wide ≤ 64
  len : s.bits.length ≤ 150 * s.n
  emp : s.n = 0 → s.step = 0 ∧ s.lead = 0 ∧ s.wide = 0
theorem St.zero_ok : St.zero.Ok := ⟨by decide, by decide, by decide, by decide, by decide, by decide, fun _ => ⟨rfl, rfl, rfl⟩⟩

theorem wd_le (k : Nat) : wd k ≤ 64 := by unfold wd; repeat' split
                                          all_goals omega
theorem kind_le (u : Nat) : kind u ≤ 4 := by unfold kind; repeat' split
                                             all_goals omega
theorem kind_wd (u : Nat) (h : u < 18446744073709551616) : width u ≤ wd (kind u) := by
  have := width_le u h
  unfold kind wd
  repeat' split
  all_goals omega
theorem ones_len (n : Nat) (h : n ≤ 4) : (unary (n : Nat) 4).length ≤ 4 := by
  unfold unary
  have h1 : ones (n : Int) 4 = n := by unfold ones; omega
  rw [h1, List.length_append, List.length_replicate]
  split <;> simp <;> omega
theorem timeB_len (u : Nat) : (timeB u).length ≤ 68 := by
  unfold timeB
  rw [List.length_append, bitsOf_length]
  have := ones_len (kind u) (kind_le u)
  have := wd_le (kind u)
  omega
theorem xor_lt {a b : Nat} (ha : a < 18446744073709551616) (hb : b < 18446744073709551616) : a ^^^ b < 18446744073709551616 := Nat.xor_lt_two_pow (n := 64) (by simpa using ha) (by simpa using hb)
theorem valB_len (lead wide x : Nat) (hx : x < 18446744073709551616) (hw : lead + wide ≤ 64) : (valB lead wide x).length ≤ 78 := by
  have := width_le x hx
  unfold valB
  split
  · simp
  · split
    · simp [bitsOf_length]; omega
    · simp [bitsOf_length]; omega
theorem win_ok (lead wide x : Nat) (hw : lead + wide ≤ 64) (hx : x < 18446744073709551616) : valL lead wide x + valW lead wide x ≤ 64 := by
  unfold valL valW
  have := width_le x hx
  split <;> omega
theorem err_zero {s : St} {x : Sm} (h : err s x = 0) : 0 ≤ x.1 ∧ x.1 ≤ 1099511627776 ∧ (0 < s.n → s.t < x.1) ∧ s.n ≠ 120 := by
  unfold err at h
  repeat' split at h
  all_goals first | exact absurd h (by decide) | (refine ⟨?_, ?_, ?_, ?_⟩ <;> omega)
theorem St.Ok.put {s : St} {x : Sm} (h : s.Ok) (he : err s x = 0) (hx : x.2 < 18446744073709551616) : (s.put x).Ok := by
  obtain ⟨h1, h2, h3, h4⟩ := err_zero he
  have hn := h.n
  have ht := h.t
  unfold St.put
  split
  · next h0 =>
    have hl := h.len
    obtain ⟨g1, g2, g3⟩ := h.emp h0
    refine ⟨by show 1 ≤ 120; omega, ⟨h1, h2⟩, hx, h.step, h.win, ?_, fun h => absurd h (by show ¬ (1 = 0); omega)⟩
    show (s.bits ++ bitsOf x.1.toNat 41 ++ bitsOf x.2 64).length ≤ 150 * 1
    simp [bitsOf_length]; omega
  · next h0 =>
    have hl := h.len
    have h5 := h3 (by omega)
    have hxx := xor_lt hx h.v
    refine ⟨by show s.n + 1 ≤ 120; omega, ⟨h1, h2⟩, hx, ⟨by show 0 ≤ x.1 - s.t; omega, by show x.1 - s.t ≤ _; omega⟩, win_ok _ _ _ h.win hxx, ?_, fun h => absurd h (by show ¬ (s.n + 1 = 0); omega)⟩
    show (s.bits ++ timeB (fold (x.1 - s.t - s.step)) ++ valB s.lead s.wide (x.2 ^^^ s.v)).length ≤ 150 * (s.n + 1)
    have := timeB_len (fold (x.1 - s.t - s.step))
    have := valB_len s.lead s.wide (x.2 ^^^ s.v) hxx h.win
    simp only [List.length_append]; omega
theorem put_n (s : St) (x : Sm) : (s.put x).n = s.n + 1 ∧ (s.put x).t = x.1 ∧ (s.put x).v = x.2 := by
  unfold St.put; split
  · next h => exact ⟨by show 1 = s.n + 1; omega, rfl, rfl⟩
  · exact ⟨rfl, rfl, rfl⟩

structure Ey where
  p : Nat
  e : Nat
  t : Int
  v : Nat
  step : Int
  lead : Nat
  wide : Nat
def timeR (L : List Bool) (y : Ey) : Int × Ey :=
  (wrap64 (y.t + wrap64 (y.step + unfold (eyeBits L (eyeUnary L y.p y.e 4).2.1 (eyeUnary L y.p y.e 4).2.2 (wd (eyeUnary L y.p y.e 4).1 : Nat)).1)),
    { y with p := (eyeBits L (eyeUnary L y.p y.e 4).2.1 (eyeUnary L y.p y.e 4).2.2 (wd (eyeUnary L y.p y.e 4).1 : Nat)).2.1, e := (eyeBits L (eyeUnary L y.p y.e 4).2.1 (eyeUnary L y.p y.e 4).2.2 (wd (eyeUnary L y.p y.e 4).1 : Nat)).2.2, step := wrap64 (y.step + unfold (eyeBits L (eyeUnary L y.p y.e 4).2.1 (eyeUnary L y.p y.e 4).2.2 (wd (eyeUnary L y.p y.e 4).1 : Nat)).1) })
def winR (L : List Bool) (y : Ey) (p e : Nat) : Ey :=
  { y with p := (eyeBits L (eyeBits L p e 6).2.1 (eyeBits L p e 6).2.2 6).2.1, e := (eyeBits L (eyeBits L p e 6).2.1 (eyeBits L p e 6).2.2 6).2.2, lead := (eyeBits L p e 6).1, wide := (eyeBits L (eyeBits L p e 6).2.1 (eyeBits L p e 6).2.2 6).1 + 1 }
def inR (L : List Bool) (y : Ey) : Nat × Nat × Ey :=
  if y.wide = 0 ∨ 64 < y.lead + y.wide then (0, 3, y)
  else (y.v ^^^ ((eyeBits L y.p y.e (y.wide : Nat)).1 * 2 ^ (64 - y.lead - y.wide)), 0, { y with p := (eyeBits L y.p y.e (y.wide : Nat)).2.1, e := (eyeBits L y.p y.e (y.wide : Nat)).2.2 })
def valR (L : List Bool) (y : Ey) : Nat × Nat × Ey :=
  if (eyeBit L y.p y.e).1 = false then (y.v, 0, { y with p := (eyeBit L y.p y.e).2.1, e := (eyeBit L y.p y.e).2.2 })
  else if (eyeBit L (eyeBit L y.p y.e).2.1 (eyeBit L y.p y.e).2.2).1 = true then inR L (winR L y (eyeBit L (eyeBit L y.p y.e).2.1 (eyeBit L y.p y.e).2.2).2.1 (eyeBit L (eyeBit L y.p y.e).2.1 (eyeBit L y.p y.e).2.2).2.2)
  else inR L { y with p := (eyeBit L (eyeBit L y.p y.e).2.1 (eyeBit L y.p y.e).2.2).2.1, e := (eyeBit L (eyeBit L y.p y.e).2.1 (eyeBit L y.p y.e).2.2).2.2 }
def firstR (L : List Bool) (y : Ey) : Sm × Nat × Ey :=
  ((((eyeBits L y.p y.e 41).1 : Int), (eyeBits L (eyeBits L y.p y.e 41).2.1 (eyeBits L y.p y.e 41).2.2 64).1), (eyeBits L (eyeBits L y.p y.e 41).2.1 (eyeBits L y.p y.e 41).2.2 64).2.2,
    { y with p := (eyeBits L (eyeBits L y.p y.e 41).2.1 (eyeBits L y.p y.e 41).2.2 64).2.1, e := (eyeBits L (eyeBits L y.p y.e 41).2.1 (eyeBits L y.p y.e 41).2.2 64).2.2 })
def restR (L : List Bool) (y : Ey) : Sm × Nat × Ey :=
  if (valR L (timeR L y).2).2.2.e ≠ 0 then ((0, 0), (valR L (timeR L y).2).2.2.e, (valR L (timeR L y).2).2.2)
  else (((timeR L y).1, (valR L (timeR L y).2).1), if (valR L (timeR L y).2).2.1 = 0 ∧ (timeR L y).1 ≤ y.t then 3 else (valR L (timeR L y).2).2.1, (valR L (timeR L y).2).2.2)
def nextR (L : List Bool) (y : Ey) (first : Bool) : Sm × Nat × Ey := if first = true then firstR L y else restR L y
def loopR (L : List Bool) : Nat → Nat → Ey → List Sm → List Sm × Nat
  | 0, _, _, acc => (acc, 0)
  | k + 1, i, y, acc =>
    if (nextR L y (i == 0)).2.1 ≠ 0 then ([], (nextR L y (i == 0)).2.1)
    else if 1099511627776 < (nextR L y (i == 0)).1.1 ∨ (nextR L y (i == 0)).1.1 < 0 then ([], 3)
    else loopR L k (i + 1) { (nextR L y (i == 0)).2.2 with t := (nextR L y (i == 0)).1.1, v := (nextR L y (i == 0)).1.2 } (acc ++ [(nextR L y (i == 0)).1])
def Ey.zero : Ey := ⟨0, 0, 0, 0, 0, 0, 0⟩

structure Sync (y : Ey) (s : St) : Prop where
  e : y.e = 0
  t : y.t = s.t
  v : y.v = s.v
  step : y.step = s.step
  lead : y.lead = s.lead
  wide : y.wide = s.wide

theorem clip_nat (n : Nat) (h : n ≤ 64) : clip (n : Int) = n := by unfold clip; omega
theorem mod_of_width {u n : Nat} (h : width u ≤ n) : u % 2 ^ n = u := Nat.mod_eq_of_lt (Nat.lt_of_lt_of_le (width_spec u).1 (Nat.pow_le_pow_right (by omega) h))
theorem wrap64_of (z : Int) (h1 : -9223372036854775808 ≤ z) (h2 : z ≤ 9223372036854775807) : wrap64 z = z := by
  unfold wrap64; omega

theorem timeR_of {L rest : List Bool} {y : Ey} {x : Int} (he : y.e = 0) (ht : 0 ≤ y.t ∧ y.t ≤ 1099511627776) (hs : 0 ≤ y.step ∧ y.step ≤ 1099511627776) (hx : 0 ≤ x ∧ x ≤ 1099511627776)
    (h : L.drop y.p = timeB (fold (x - y.t - y.step)) ++ rest) : timeR L y = (x, { y with p := y.p + (timeB (fold (x - y.t - y.step))).length, step := x - y.t }) := by
  obtain ⟨u, hu⟩ : ∃ u, u = fold (x - y.t - y.step) := ⟨_, rfl⟩
  have hu2 : u < 18446744073709551616 := by rw [hu]; exact fold_lt _ (by omega) (by omega)
  have huf : unfold u = x - y.t - y.step := by rw [hu, unfold_fold]
  rw [← hu] at h ⊢
  unfold timeB at h
  rw [List.append_assoc] at h
  have h1 := eyeUnary_of h
  have hk := kind_le u
  have ho : ones (kind u : Int) 4 = kind u := by unfold ones; omega
  rw [ho] at h1
  have h2 : L.drop (y.p + (unary (kind u : Int) 4).length) = bitsOf u (clip ((wd (kind u) : Nat) : Int)) ++ rest := by
    rw [← List.drop_drop, h, List.drop_left, clip_nat _ (wd_le _)]
  have h3 := eyeBits_of h2
  rw [clip_nat _ (wd_le _), mod_of_width (kind_wd u hu2)] at h3
  unfold timeR
  rw [he, h1]
  simp only
  rw [h3]
  simp only
  rw [huf, show y.step + (x - y.t - y.step) = x - y.t by omega, wrap64_of (x - y.t) (by omega) (by omega), show y.t + (x - y.t) = x by omega, wrap64_of x (by omega) (by omega)]
  rw [show (timeB u).length = (unary (kind u : Int) 4).length + wd (kind u) by unfold timeB; rw [List.length_append, bitsOf_length], ← Nat.add_assoc, ← he]
theorem low_bits {x a b : Nat} (h1 : 2 ^ a ∣ x) (h2 : x < 2 ^ (a + b)) : (x / 2 ^ a) % 2 ^ b * 2 ^ a = x := by
  have h3 : x / 2 ^ a < 2 ^ b := by
    rw [Nat.div_lt_iff_lt_mul (Nat.two_pow_pos _), ← Nat.pow_add, Nat.add_comm]; exact h2
  rw [Nat.mod_eq_of_lt h3, Nat.div_mul_cancel h1]
theorem inR_of {L rest : List Bool} {y : Ey} {x : Nat} (he : y.e = 0) (hw : 0 < y.wide) (hl : y.lead + y.wide ≤ 64) (hd : 2 ^ (64 - y.lead - y.wide) ∣ x) (hlt : x < 2 ^ (64 - y.lead))
    (h : L.drop y.p = bitsOf (x / 2 ^ (64 - y.lead - y.wide)) y.wide ++ rest) : inR L y = (y.v ^^^ x, 0, { y with p := y.p + y.wide }) := by
  have h' : L.drop y.p = bitsOf (x / 2 ^ (64 - y.lead - y.wide)) (clip ((y.wide : Nat) : Int)) ++ rest := by rw [clip_nat _ (by omega)]; exact h
  have h1 := eyeBits_of h'
  rw [clip_nat _ (by omega)] at h1
  unfold inR
  rw [if_neg (by omega), he, h1]
  simp only
  rw [low_bits hd (by rw [show 64 - y.lead - y.wide + y.wide = 64 - y.lead by omega]; exact hlt)]
theorem valR_of {L rest : List Bool} {y : Ey} {x : Nat} (he : y.e = 0) (hw : y.lead + y.wide ≤ 64) (hx : x < 18446744073709551616)
    (h : L.drop y.p = valB y.lead y.wide x ++ rest) : valR L y = (y.v ^^^ x, 0, { y with p := y.p + (valB y.lead y.wide x).length, lead := valL y.lead y.wide x, wide := valW y.lead y.wide x }) := by
  unfold valR
  unfold valB at h ⊢
  unfold valL valW
  rw [he]
  by_cases h0 : x = 0
  · rw [if_pos h0] at h
    rw [eyeBit_of h]
    simp only [if_true]
    rw [if_pos h0, if_pos (.inl h0), if_pos (.inl h0), h0, Nat.xor_zero]
    simp
  · rw [if_neg h0] at h
    obtain ⟨t1, t2, t3⟩ := tz_spec x (by omega)
    have hwx := width_le x hx
    have hsp := (width_spec x).1
    by_cases hf : fitW y.lead y.wide x
    · rw [if_pos hf, List.append_assoc] at h
      have h1 := eyeBit_of h
      have h2 : L.drop (y.p + 1) = [false] ++ (bitsOf (x / 2 ^ (64 - y.lead - y.wide)) y.wide ++ rest) := by
        rw [← List.drop_drop, h, List.append_assoc]; rfl
      have h3 := eyeBit_of h2
      have h4 : L.drop (y.p + 1 + 1) = bitsOf (x / 2 ^ (64 - y.lead - y.wide)) y.wide ++ rest := by
        rw [← List.drop_drop, h2]; rfl
      rw [h1]
      simp only
      rw [if_neg (by decide), h3]
      simp only
      rw [if_neg (by decide), if_neg h0, if_pos hf, if_pos (.inr hf), if_pos (.inr hf)]
      obtain ⟨f1, f2, f3⟩ := hf
      have := inR_of (L := L) (rest := rest) (y := { y with p := y.p + 1 + 1, e := 0 }) (x := x) rfl f1 hw (Nat.dvd_trans (Nat.pow_dvd_pow 2 f3) t1) (Nat.lt_of_lt_of_le hsp (Nat.pow_le_pow_right (by omega) (by show width x ≤ 64 - y.lead; omega))) h4
      rw [this]
      simp only [List.length_append, bitsOf_length, List.length_cons, List.length_nil]
      congr 2
      simp only [Ey.mk.injEq, and_true]
      first | omega | exact ⟨by omega, he.symm⟩
    · rw [if_neg hf, List.append_assoc] at h
      have h1 := eyeBit_of h
      have h2 : L.drop (y.p + 1) = [true] ++ (bitsOf (64 - width x) 6 ++ (bitsOf (width x - tz x - 1) 6 ++ (bitsOf (x / 2 ^ tz x) (width x - tz x) ++ rest))) := by
        rw [← List.drop_drop, h]; simp only [List.append_assoc]; rfl
      have h3 := eyeBit_of h2
      have h4 : L.drop (y.p + 1 + 1) = bitsOf (64 - width x) (clip 6) ++ (bitsOf (width x - tz x - 1) 6 ++ (bitsOf (x / 2 ^ tz x) (width x - tz x) ++ rest)) := by
        rw [← List.drop_drop, h2]; rfl
      have h5 := eyeBits_of h4
      have h6 : L.drop (y.p + 1 + 1 + clip 6) = bitsOf (width x - tz x - 1) (clip 6) ++ (bitsOf (x / 2 ^ tz x) (width x - tz x) ++ rest) := by
        rw [← List.drop_drop, h4, List.drop_left' (bitsOf_length _ _)]; rfl
      have h7 := eyeBits_of h6
      have h8 : L.drop (y.p + 1 + 1 + clip 6 + clip 6) = bitsOf (x / 2 ^ tz x) (width x - tz x) ++ rest := by
        rw [← List.drop_drop, h6, List.drop_left' (bitsOf_length _ _)]
      have c6 : clip 6 = 6 := rfl
      have hw1 := width_pos x (by omega)
      have m1 : (64 - width x) % 2 ^ clip 6 = 64 - width x := Nat.mod_eq_of_lt (by rw [c6]; omega)
      have m2 : (width x - tz x - 1) % 2 ^ clip 6 = width x - tz x - 1 := Nat.mod_eq_of_lt (by rw [c6]; omega)
      rw [m1] at h5
      rw [m2] at h7
      rw [h1]
      simp only
      rw [if_neg (by decide), h3]
      simp only
      rw [if_pos trivial, if_neg h0, if_neg hf, if_neg (fun h => h.elim h0 hf), if_neg (fun h => h.elim h0 hf)]
      unfold winR
      rw [h5]
      simp only
      rw [h7]
      simp only
      have hwd : width x - tz x - 1 + 1 = width x - tz x := by omega
      have hsh : 64 - (64 - width x) - (width x - tz x) = tz x := by omega
      have := inR_of (L := L) (rest := rest) (y := { y with p := y.p + 1 + 1 + clip 6 + clip 6, e := 0, lead := 64 - width x, wide := width x - tz x }) (x := x) rfl (by show 0 < width x - tz x; omega) (by show 64 - width x + (width x - tz x) ≤ 64; omega) (by show 2 ^ (64 - (64 - width x) - (width x - tz x)) ∣ x; rw [hsh]; exact t1) (by show x < 2 ^ (64 - (64 - width x)); rw [show 64 - (64 - width x) = width x by omega]; exact hsp) (by show L.drop (y.p + 1 + 1 + clip 6 + clip 6) = bitsOf (x / 2 ^ (64 - (64 - width x) - (width x - tz x))) (width x - tz x) ++ rest; rw [hsh]; exact h8)
      rw [hwd, this]
      simp only [List.length_append, bitsOf_length, List.length_cons, List.length_nil, c6]
      congr 2
      simp only [Ey.mk.injEq, and_true]
      first | omega | exact ⟨by omega, he.symm⟩

end Go.Bar.Xor

namespace Go.Bar.Xor
open Go.RowKit Go.Bar Go.Bar.Bit Go.Bar.Leb

theorem firstR_of {L rest : List Bool} {y : Ey} {x : Sm} (he : y.e = 0) (h0 : 0 <= x.1) (h1 : x.1 <= 1099511627776) (h2 : x.2 < 18446744073709551616)
  (h : L.drop y.p = bitsOf x.1.toNat 41 ++ (bitsOf x.2 64 ++ rest)) : firstR L y = (x, 0, { y with p := y.p + 105, e := 0 }) := by
 have c41 : clip 41 = 41 := rfl
 have c64 : clip 64 = 64 := rfl
 have g1 : L.drop y.p = bitsOf x.1.toNat (clip 41) ++ (bitsOf x.2 64 ++ rest) := h
 have g2 := eyeBits_of g1
 have g3 : L.drop (y.p + clip 41) = bitsOf x.2 (clip 64) ++ rest := by
  rw [<- List.drop_drop, g1, List.drop_left' (bitsOf_length _ _)]; rfl
 have g4 := eyeBits_of g3
 rw [c41, Nat.mod_eq_of_lt (show x.1.toNat < 2 ^ 41 by omega)] at g2
 rw [c64, c41, Nat.mod_eq_of_lt (show x.2 < 2 ^ 64 by omega)] at g4
 unfold firstR
 rw [he, g2]
 simp only
 rw [g4]
 obtain ⟨a, b⟩ := x
 simp only at h0 ⊢
 rw [show ((a.toNat : Nat) : Int) = a by omega]
def inc (s : St) (x : Sm) : List Bool := if s.n = 0 then bitsOf x.1.toNat 41 ++ bitsOf x.2 64 else timeB (fold (x.1 - s.t - s.step)) ++ valB s.lead s.wide (x.2 ^^^ s.v)
theorem put_bits (s : St) (x : Sm) : (s.put x).bits = s.bits ++ inc s x := by
 unfold St.put inc; split <;> simp
def more : St -> List Sm -> List Bool
 | _, [] => []
 | s, x :: l => inc s x ++ more (s.put x) l
theorem ofS_more : ∀ (l : List Sm) (s s' : St), ofS s l = (s', 0) -> s'.bits = s.bits ++ more s l /\ s'.n = s.n + l.length
 | [], s, s', h => by
  simp only [ofS, Prod.mk.injEq, and_true] at h
  subst h; simp [more]
 | x :: l, s, s', h => by
  rw [ofS] at h
  by_cases he : err s x = 0
  ·rw [if_pos he] at h
   obtain ⟨h1, h2⟩ := ofS_more l _ s' h
   rw [put_bits] at h1
   rw [(put_n s x).1] at h2
   exact ⟨by rw [h1, more, List.append_assoc], by rw [h2, List.length_cons]; omega⟩
  ·rw [if_neg he] at h
   simp only [Prod.mk.injEq] at h
   exact absurd h.2 he
theorem ofS_ok : ∀ (l : List Sm) (s : St), s.Ok -> (∀ x ∈ l, x.2 < 18446744073709551616) -> (ofS s l).1.Ok
 | [], s, h, _ => h
 | x :: l, s, h, hx => by
  rw [ofS]
  split
  ·next he => exact ofS_ok l _ (h.put he (hx x (by simp))) (fun y hy => hx y (by simp [hy]))
  ·exact h

theorem restR_of {L rest : List Bool} {y : Ey} {s : St} {x : Sm} (hy : Sync y s) (hs : s.Ok) (he : err s x = 0) (hn : 0 < s.n) (hx : x.2 < 18446744073709551616)
  (h : L.drop y.p = timeB (fold (x.1 - s.t - s.step)) ++ (valB s.lead s.wide (x.2 ^^^ s.v) ++ rest)) :
  restR L y = (x, 0, ⟨y.p + (timeB (fold (x.1 - s.t - s.step))).length + (valB s.lead s.wide (x.2 ^^^ s.v)).length, 0, y.t, y.v, x.1 - s.t, valL s.lead s.wide (x.2 ^^^ s.v), valW s.lead s.wide (x.2 ^^^ s.v)⟩) := by
 obtain ⟨e1, e2, e3, e4⟩ := err_zero he
 obtain ⟨k0, k1, k2, k3, k4, k5⟩ := hy
 obtain ⟨p, e, t, v, st, ld, wi⟩ := y
 simp only at k0 k1 k2 k3 k4 k5 h
 subst k0; subst k1; subst k2; subst k3; subst k4; subst k5
 have hxx := xor_lt hx hs.v
 have h1 := timeR_of (L := L) (y := ⟨p, 0, s.t, s.v, s.step, s.lead, s.wide⟩) (x := x.1) (rest := valB s.lead s.wide (x.2 ^^^ s.v) ++ rest) rfl hs.t hs.step ⟨e1, e2⟩ h
 have h2 : L.drop (p + (timeB (fold (x.1 - s.t - s.step))).length) = valB s.lead s.wide (x.2 ^^^ s.v) ++ rest := by
  rw [<- List.drop_drop, h, List.drop_left]
 have h3 := valR_of (L := L) (rest := rest) (y := ⟨p + (timeB (fold (x.1 - s.t - s.step))).length, 0, s.t, s.v, x.1 - s.t, s.lead, s.wide⟩) (x := x.2 ^^^ s.v) rfl hs.win hxx h2
 simp only at h1 h3
 unfold restR
 rw [h1]
 simp only
 rw [h3]
 simp only
 have hv : s.v ^^^ (x.2 ^^^ s.v) = x.2 := by
  rw [Nat.xor_comm x.2 s.v, <- Nat.xor_assoc, Nat.xor_self, Nat.zero_xor]
 rw [if_neg (by omega), hv, if_neg (fun hh => by have := e3 hn; omega)]
theorem loopR_of (L : List Bool) : ∀ (l : List Sm) (s s' : St) (y : Ey) (acc : List Sm) (rest : List Bool), Sync y s -> s.Ok -> (∀ x ∈ l, x.2 < 18446744073709551616) -> ofS s l = (s', 0) -> L.drop y.p = more s l ++ rest ->
  loopR L l.length s.n y acc = (acc ++ l, 0)
 | [], s, s', y, acc, rest, _, _, _, _, _ => by simp [loopR]
 | x :: l, s, s', y, acc, rest, hy, hs, hx, ho, hd => by
  rw [ofS] at ho
  by_cases he : err s x = 0
  ·rw [if_pos he] at ho
   obtain ⟨e1, e2, e3, e4⟩ := err_zero he
   have hx0 := hx x (by simp)
   rw [more, List.append_assoc] at hd
   obtain ⟨pn, pt, pv⟩ := put_n s x
   have ih := fun y' h1 h3 => loopR_of L l (s.put x) s' y' (acc ++ [x]) rest h1 (hs.put he hx0) (fun z hz => hx z (by simp [hz])) ho h3
   rw [pn] at ih
   rw [List.length_cons, loopR]
   have hne : ∃ y', nextR L y (s.n == 0) = (x, 0, y') /\ Sync { y' with t := x.1, v := x.2 } (s.put x) /\ L.drop y'.p = more (s.put x) l ++ rest := by
    unfold nextR
    unfold inc at hd
    by_cases h0 : s.n = 0
    ·rw [if_pos h0, List.append_assoc] at hd
     rw [if_pos (by simp [h0])]
     refine ⟨_, firstR_of hy.e e1 e2 hx0 hd, ⟨rfl, pt.symm, pv.symm, ?_, ?_, ?_⟩, ?_⟩
     ·unfold St.put; rw [if_pos h0]; exact hy.step
     ·unfold St.put; rw [if_pos h0]; exact hy.lead
     ·unfold St.put; rw [if_pos h0]; exact hy.wide
     ·show L.drop (y.p + 105) = _
      rw [show y.p + 105 = y.p + 41 + 64 by omega, <- List.drop_drop, <- List.drop_drop, hd, List.drop_left' (bitsOf_length _ _), List.drop_left' (bitsOf_length _ _)]
    ·rw [if_neg h0, List.append_assoc] at hd
     rw [if_neg (by simp [h0])]
     refine ⟨_, restR_of hy hs he (by omega) hx0 hd, ⟨rfl, pt.symm, pv.symm, ?_, ?_, ?_⟩, ?_⟩
     ·unfold St.put; rw [if_neg h0]
     ·unfold St.put; rw [if_neg h0]
     ·unfold St.put; rw [if_neg h0]
     ·show L.drop (y.p + _ + _) = _
      rw [<- List.drop_drop, <- List.drop_drop, hd, List.drop_left, List.drop_left]
   obtain ⟨y', hn1, hn2, hn3⟩ := hne
   rw [hn1]
   simp only
   rw [if_neg (by omega), if_neg (by omega), ih _ hn2 hn3, List.append_assoc]
   rfl
  ·rw [if_neg he] at ho
   simp only [Prod.mk.injEq] at ho
   exact absurd ho.2 he

def bodyR (w : List UInt8) (n : Nat) (rest : List UInt8) (m : Nat) : List Sm × Nat :=
 if (loopR ((unpack rest).take m) n 0 Ey.zero []).2 ≠ 0 then ([], (loopR ((unpack rest).take m) n 0 Ey.zero []).2)
 else if (ofS St.zero (loopR ((unpack rest).take m) n 0 Ey.zero []).1).2 ≠ 0 \/ text (ofS St.zero (loopR ((unpack rest).take m) n 0 Ey.zero []).1).1 ≠ w then ([], 3)
 else ((loopR ((unpack rest).take m) n 0 Ey.zero []).1, 0)
def samplesR (w : List UInt8) : List Sm × Nat :=
 if (takeMost w 120).2.2 ≠ 0 then ([], (takeMost w 120).2.2)
 else if (takeMost (takeMost w 120).2.1 1048576).2.2 ≠ 0 then ([], (takeMost (takeMost w 120).2.1 1048576).2.2)
 else if (takeMost (takeMost w 120).2.1 1048576).2.1.length ≠ ((takeMost (takeMost w 120).2.1 1048576).1 + 7) / 8 then ([], 3)
 else bodyR w (takeMost w 120).1 (takeMost (takeMost w 120).2.1 1048576).2.1 (takeMost (takeMost w 120).2.1 1048576).1

theorem samplesR_of {l : List Sm} {s : St} (h : ofS St.zero l = (s, 0)) (hx : ∀ x ∈ l, x.2 < 18446744073709551616) : samplesR (text s) = (l, 0) := by
 have hok : s.Ok := by
  have := ofS_ok l St.zero St.zero_ok hx
  rw [h] at this
  exact this
 obtain ⟨hb, hn⟩ := ofS_more l _ _ h
 have hn' : s.n = l.length := by rw [hn]; show 0 + l.length = _; omega
 have hb' : s.bits = more St.zero l := by rw [hb]; rfl
 have h1 := hok.n
 have h2 := hok.len
 unfold samplesR text
 rw [takeMost_u s.n _ 120 (by omega) (by omega)]
 simp only
 rw [if_neg (by omega), takeMost_u s.bits.length _ 1048576 (by omega) (by omega)]
 simp only
 rw [if_neg (by omega), pack_length, if_neg (by omega)]
 have hl := loopR_of s.bits l St.zero s Ey.zero [] [] ⟨rfl, rfl, rfl, rfl, rfl, rfl⟩ St.zero_ok hx h (by rw [List.append_nil]; exact hb')
 have hl' : loopR ((unpack (pack s.bits)).take s.bits.length) s.n 0 Ey.zero [] = (l, 0) := by
  rw [unpack_pack_take, hn']; exact hl
 unfold bodyR
 rw [hl']
 simp only
 rw [if_neg (by omega), h]
 simp only
 rw [if_neg (fun hh => by rcases hh with hh | hh; exact hh rfl; exact hh rfl)]

theorem eyeBit_e (L : List Bool) (p e : Nat) (h : e = 0 \/ e = 2) : (eyeBit L p e).2.2 = 0 \/ (eyeBit L p e).2.2 = 2 := by
 unfold eyeBit; split
 ·exact h
 ·split <;> simp
theorem eyeBits_e (L : List Bool) (p e : Nat) (n : Int) (h : e = 0 \/ e = 2) : (eyeBits L p e n).2.2 = 0 \/ (eyeBits L p e n).2.2 = 2 := by
 unfold eyeBits; split
 ·exact h
 ·split <;> simp
theorem eyeUnary_e (L : List Bool) (p e : Nat) (n : Int) (h : e = 0 \/ e = 2) : (eyeUnary L p e n).2.2 = 0 \/ (eyeUnary L p e n).2.2 = 2 := by
 unfold eyeUnary; split
 ·exact h
 ·split
  ·simp
  ·split <;> simp
theorem eyeBits_lt (L : List Bool) (p e : Nat) (n : Int) : (eyeBits L p e n).1 < 2 ^ clip n := by
 have h0 : 0 < 2 ^ clip n := Nat.two_pow_pos _
 unfold eyeBits; split
 ·exact h0
 ·split
  ·exact h0
  ·next h1 h2 => exact num_lt _ _ (by rw [List.length_take, List.length_drop]; omega)
structure Ey.Ok (y : Ey) : Prop where
 e : y.e = 0 \/ y.e = 2
 v : y.v < 18446744073709551616
 lead : y.lead < 64
 wide : y.wide <= 64
theorem timeR_ok (L : List Bool) {y : Ey} (h : y.Ok) : (timeR L y).2.Ok :=
 ⟨eyeBits_e _ _ _ _ (eyeUnary_e _ _ _ _ h.e), h.v, h.lead, h.wide⟩
theorem shl_lt {a lead wide : Nat} (h : a < 2 ^ wide) (hw : lead + wide <= 64) : a * 2 ^ (64 - lead - wide) < 18446744073709551616 := by
 have h1 : a * 2 ^ (64 - lead - wide) < 2 ^ wide * 2 ^ (64 - lead - wide) := Nat.mul_lt_mul_of_pos_right h (Nat.two_pow_pos _)
 rw [<- Nat.pow_add] at h1
 have h2 : 2 ^ (wide + (64 - lead - wide)) <= 2 ^ 64 := Nat.pow_le_pow_right (by omega) (by omega)
 omega
theorem inR_ok (L : List Bool) {y : Ey} (h : y.Ok) : (inR L y).2.2.Ok /\ (inR L y).1 < 18446744073709551616 /\ ((inR L y).2.1 = 0 \/ (inR L y).2.1 = 3) := by
 unfold inR
 split
 ·exact ⟨h, by show 0 < _; omega, .inr rfl⟩
 ·next hw =>
  refine ⟨⟨eyeBits_e _ _ _ _ h.e, h.v, h.lead, h.wide⟩, ?_, .inl rfl⟩
  have := eyeBits_lt L y.p y.e (y.wide : Nat)
  rw [clip_nat _ h.wide] at this
  exact xor_lt h.v (shl_lt this (by omega))
theorem valR_ok (L : List Bool) {y : Ey} (h : y.Ok) : (valR L y).2.2.Ok /\ (valR L y).1 < 18446744073709551616 /\ ((valR L y).2.1 = 0 \/ (valR L y).2.1 = 3) := by
 unfold valR
 split
 ·exact ⟨⟨eyeBit_e _ _ _ h.e, h.v, h.lead, h.wide⟩, h.v, .inl rfl⟩
 ·split
  ·refine inR_ok L ⟨eyeBits_e _ _ _ _ (eyeBits_e _ _ _ _ (eyeBit_e _ _ _ (eyeBit_e _ _ _ h.e))), h.v, ?_, ?_⟩
   ·exact eyeBits_lt L _ _ 6
   ·have := eyeBits_lt L (eyeBits L (eyeBit L (eyeBit L y.p y.e).2.1 (eyeBit L y.p y.e).2.2).2.1 (eyeBit L (eyeBit L y.p y.e).2.1 (eyeBit L y.p y.e).2.2).2.2 6).2.1 (eyeBits L (eyeBit L (eyeBit L y.p y.e).2.1 (eyeBit L y.p y.e).2.2).2.1 (eyeBit L (eyeBit L y.p y.e).2.1 (eyeBit L y.p y.e).2.2).2.2 6).2.2 6
    rw [show (2 : Nat) ^ clip 6 = 64 from rfl] at this
    exact this
  ·exact inR_ok L ⟨eyeBit_e _ _ _ (eyeBit_e _ _ _ h.e), h.v, h.lead, h.wide⟩
theorem nextR_ok (L : List Bool) {y : Ey} (h : y.Ok) (f : Bool) : (nextR L y f).2.2.Ok /\ (nextR L y f).1.2 < 18446744073709551616 /\ ((nextR L y f).2.1 = 0 \/ (nextR L y f).2.1 = 2 \/ (nextR L y f).2.1 = 3) := by
 unfold nextR
 split
 ·have h1 := eyeBits_e L (eyeBits L y.p y.e 41).2.1 (eyeBits L y.p y.e 41).2.2 64 (eyeBits_e L y.p y.e 41 h.e)
  exact ⟨⟨h1, h.v, h.lead, h.wide⟩, eyeBits_lt L _ _ 64, h1.elim .inl (fun h => .inr (.inl h))⟩
 ·obtain ⟨h1, h2, h3⟩ := valR_ok L (timeR_ok L h)
  unfold restR
  split
  ·next he => exact ⟨h1, by show 0 < _; omega, .inr (.inl (h1.e.resolve_left he))⟩
  ·refine ⟨h1, h2, ?_⟩
   split
   ·exact .inr (.inr rfl)
   ·exact h3.elim .inl (fun h => .inr (.inr h))
theorem loopR_ok (L : List Bool) : ∀ (k i : Nat) (y : Ey) (acc : List Sm), y.Ok -> (∀ x ∈ acc, x.2 < 18446744073709551616) -> (∀ x ∈ (loopR L k i y acc).1, x.2 < 18446744073709551616) /\ ((loopR L k i y acc).2 = 0 \/ (loopR L k i y acc).2 = 2 \/ (loopR L k i y acc).2 = 3) /\
  ((loopR L k i y acc).2 = 0 -> (loopR L k i y acc).1.length = acc.length + k)
 | 0, _, _, acc, _, ha => ⟨ha, .inl rfl, fun _ => rfl⟩
 | k + 1, i, y, acc, hy, ha => by
  obtain ⟨h1, h2, h3⟩ := nextR_ok L hy (i == 0)
  rw [loopR]
  split
  ·next he => exact ⟨by simp, h3, fun h => absurd h he⟩
  ·split
   ·exact ⟨by simp, .inr (.inr rfl), fun h => absurd h (by decide)⟩
   ·obtain ⟨g1, g2, g3⟩ := loopR_ok L k (i + 1) { (nextR L y (i == 0)).2.2 with t := (nextR L y (i == 0)).1.1, v := (nextR L y (i == 0)).1.2 } (acc ++ [(nextR L y (i == 0)).1]) ⟨h1.e, h2, h1.lead, h1.wide⟩ (by
     intro x hx
     rw [List.mem_append, List.mem_singleton] at hx
     rcases hx with hx | rfl
     ·exact ha x hx
     ·exact h2)
    refine ⟨g1, g2, fun h => ?_⟩
    rw [g3 h, List.length_append]
    simp; omega
theorem Ey.zero_ok : Ey.zero.Ok := ⟨.inl rfl, by decide, by decide, by decide⟩
theorem bodyR_prop (w : List UInt8) (n : Nat) (rest : List UInt8) (m : Nat) :
  ((bodyR w n rest m).2 = 0 /\ (ofS St.zero (bodyR w n rest m).1).2 = 0 /\ text (ofS St.zero (bodyR w n rest m).1).1 = w /\ ∀ x ∈ (bodyR w n rest m).1, x.2 < 18446744073709551616) \/ ((bodyR w n rest m).1 = [] /\ ((bodyR w n rest m).2 = 2 \/ (bodyR w n rest m).2 = 3)) := by
 obtain ⟨h1, h2, h3⟩ := loopR_ok ((unpack rest).take m) n 0 Ey.zero [] Ey.zero_ok (by simp)
 unfold bodyR
 split
 ·next he => exact .inr ⟨rfl, by rcases h2 with h | h | h; exact absurd h he; exact .inl h; exact .inr h⟩
 ·split
  ·exact .inr ⟨rfl, .inr rfl⟩
  ·next hh => exact .inl ⟨rfl, by simp only [ne_eq, not_or, Decidable.not_not] at hh; exact hh.1, by simp only [ne_eq, not_or, Decidable.not_not] at hh; exact hh.2, h1⟩
theorem takeMost_e (l : List UInt8) (most : Int) : (takeMost l most).2.2 = 0 \/ (takeMost l most).2.2 = 2 \/ (takeMost l most).2.2 = 3 \/ (takeMost l most).2.2 = 16 := by
 obtain ⟨_, _, h3⟩ := takeU_prop l
 unfold takeMost
 split
 ·exact .inr (.inr (.inr rfl))
 ·omega
theorem samplesR_prop (w : List UInt8) :
  ((samplesR w).2 = 0 /\ (ofS St.zero (samplesR w).1).2 = 0 /\ text (ofS St.zero (samplesR w).1).1 = w /\ ∀ x ∈ (samplesR w).1, x.2 < 18446744073709551616) \/ ((samplesR w).1 = [] /\ ((samplesR w).2 = 2 \/ (samplesR w).2 = 3 \/ (samplesR w).2 = 16)) := by
 have h1 := takeMost_e w 120
 have h2 := takeMost_e (takeMost w 120).2.1 1048576
 unfold samplesR
 split
 ·next he => exact .inr ⟨rfl, by omega⟩
 ·split
  ·next he => exact .inr ⟨rfl, by omega⟩
  ·split
   ·exact .inr ⟨rfl, .inr (.inl rfl)⟩
   ·rcases bodyR_prop w (takeMost w 120).1 (takeMost (takeMost w 120).2.1 1048576).2.1 (takeMost (takeMost w 120).2.1 1048576).1 with h | ⟨h, h' | h'⟩
    ·exact .inl h
    ·exact .inr ⟨h, .inl h'⟩
    ·exact .inr ⟨h, .inr (.inl h')⟩

end Go.Bar.Xor

namespace Go.Bar.Idt
open Go.RowKit Go.Bar

def signs : List UInt8 := [48, 49, 50, 51, 52, 53, 54, 55, 56, 57, 97, 98, 99, 100, 101, 102, 103, 104, 106, 107, 109, 110, 112, 113, 114, 115, 116, 118, 119, 120, 121, 122]
theorem signs_length : signs.length = 32 := rfl
def sgn (k : Nat) : UInt8 := signs.getD k 0
def ix (c : UInt8) : Int := Lib.indexByte signs c
theorem ix_sgn (k : Nat) (h : k < 32) : ix (sgn k) = k := by
 have : ∀ k : Fin 32, ix (sgn k.val) = (k.val : Int) := by decide +kernel
 exact this ⟨k, h⟩
theorem index_of : ∀ (l : List UInt8) (c : UInt8), Lib.indexByte l c = -1 /\ c ∉ l \/ ∃ k : Nat, Lib.indexByte l c = k /\ l[k]? = some c
 | [], c => .inl ⟨rfl, by simp⟩
 | b :: l, c => by
  unfold Lib.indexByte
  by_cases h : b = c
  ·subst h
   rw [if_pos (by simp)]
   exact .inr ⟨0, rfl, rfl⟩
  ·rw [if_neg (by simpa using h)]
   rcases index_of l c with ⟨h1, h2⟩ | ⟨k, h1, h2⟩
   ·rw [h1]
    exact .inl ⟨rfl, by simp [h2]; exact fun e => h e.symm⟩
   ·rw [h1, if_neg (by simp)]
    exact .inr ⟨k + 1, by omega, by simpa using h2⟩
theorem ix_of (c : UInt8) : ix c = -1 /\ c ∉ signs \/ ∃ k : Nat, ix c = k /\ k < 32 /\ sgn k = c := by
 rcases index_of signs c with h | ⟨k, h1, h2⟩
 ·exact .inl h
 ·obtain ⟨h3, h4⟩ := List.getElem?_eq_some_iff.1 h2
  refine .inr ⟨k, h1, h3, ?_⟩
  unfold sgn
  rw [List.getD_eq_getElem?_getD, h2]
  rfl
theorem sgn_slash (k : Nat) (h : k < 32) : sgn k ≠ 47 := by
 have : ∀ k : Fin 32, sgn k.val ≠ 47 := by decide +kernel
 exact this ⟨k, h⟩

def dg : Nat -> Nat -> List UInt8
 | 0, _ => []
 | m + 1, n => dg m (n / 32) ++ [sgn (n % 32)]
theorem dg_length : ∀ m n, (dg m n).length = m
 | 0, _ => rfl
 | m + 1, n => by rw [dg, List.length_append, dg_length m]; rfl
theorem dg_cons : ∀ (m n : Nat), dg (m + 1) n = sgn (n / 32 ^ m % 32) :: dg m n
 | 0, n => by simp [dg]
 | m + 1, n => by
  rw [dg, dg_cons m (n / 32), dg, Nat.div_div_eq_div_mul, Nat.pow_succ, Nat.mul_comm (32 ^ m) 32]
  rfl
theorem dg_mem : ∀ (m n : Nat) (c : UInt8), c ∈ dg m n -> ∃ k, k < 32 /\ c = sgn k
 | 0, _, _, h => by simp [dg] at h
 | m + 1, n, c, h => by
  rw [dg, List.mem_append] at h
  rcases h with h | h
  ·exact dg_mem m _ c h
  ·simp at h; exact ⟨_, Nat.mod_lt _ (by omega), h⟩

theorem dg_more : ∀ (m k n : Nat), dg m (k * 32 ^ m + n) = dg m n
 | 0, _, _ => rfl
 | m + 1, k, n => by
  rw [dg, dg]
  have e1 : (k * 32 ^ (m + 1) + n) / 32 = k * 32 ^ m + n / 32 := by
   rw [Nat.pow_succ, <- Nat.mul_assoc]; omega
  have e2 : (k * 32 ^ (m + 1) + n) % 32 = n % 32 := by
   rw [Nat.pow_succ, <- Nat.mul_assoc]; omega
  rw [e1, e2, dg_more m]

def num : Nat -> List UInt8 -> Option Nat
 | acc, [] => some acc
 | acc, c :: r => if ix c < 0 then none else num (32 * acc + (ix c).toNat) r
theorem num_append : ∀ (l r : List UInt8) (acc v : Nat), num acc l = some v -> num acc (l ++ r) = num v r
 | [], r, acc, v, h => by simp [num] at h; subst h; rfl
 | c :: l, r, acc, v, h => by
  rw [num] at h
  by_cases hc : ix c < 0
  ·rw [if_pos hc] at h; cases h
  ·rw [if_neg hc] at h
   rw [List.cons_append, num, if_neg hc]
   exact num_append l r _ v h
theorem num_dg : ∀ (m n acc : Nat), n < 32 ^ m -> num acc (dg m n) = some (acc * 32 ^ m + n)
 | 0, n, acc, h => by simp at h; subst h; simp [dg, num]
 | m + 1, n, acc, h => by
  have h1 := num_dg m (n / 32) acc (by rw [Nat.pow_succ] at h; omega)
  rw [dg, num_append _ _ _ _ h1, num, ix_sgn _ (Nat.mod_lt _ (by omega)), if_neg (by omega), num]
  congr 1
  rw [Nat.pow_succ, <- Nat.mul_assoc, Int.toNat_natCast]
  omega
theorem num_one : ∀ (l : List UInt8) (acc v : Nat), num acc l = some v -> ∃ n, n < 32 ^ l.length /\ v = acc * 32 ^ l.length + n /\ l = dg l.length n
 | [], acc, v, h => by simp [num] at h; exact ⟨0, by simp, by simp [h], rfl⟩
 | c :: l, acc, v, h => by
  rw [num] at h
  by_cases hc : ix c < 0
  ·rw [if_pos hc] at h; cases h
  ·rw [if_neg hc] at h
   obtain ⟨n, h1, h2, h3⟩ := num_one l _ v h
   rcases ix_of c with ⟨g, _⟩ | ⟨k, g1, g2, g3⟩
   ·omega
   ·rw [g1, Int.toNat_natCast] at h2
    have hp : 0 < 32 ^ l.length := Nat.pow_pos (by omega)
    refine ⟨k * 32 ^ l.length + n, ?_, ?_, ?_⟩
    ·rw [List.length_cons, Nat.pow_succ]
     have := Nat.mul_le_mul_right (32 ^ l.length) (show k + 1 <= 32 by omega)
     rw [Nat.add_mul] at this
     omega
    ·rw [h2, List.length_cons, Nat.pow_succ, Nat.add_mul]
     have : 32 * acc * 32 ^ l.length = acc * (32 ^ l.length * 32) := by
      rw [Nat.mul_comm 32 acc, Nat.mul_assoc, Nat.mul_comm 32]
     omega
    ·rw [List.length_cons, dg_cons]
     have e1 : (k * 32 ^ l.length + n) / 32 ^ l.length = k := by
      rw [Nat.mul_comm, Nat.mul_add_div hp, Nat.div_eq_of_lt h1, Nat.add_zero]
     rw [e1, Nat.mod_eq_of_lt g2, g3]
     congr 1
     rw [dg_more, <- h3]
theorem num_lt (l : List UInt8) (v : Nat) (h : num 0 l = some v) : v < 32 ^ l.length := by
 obtain ⟨n, h1, h2, _⟩ := num_one l 0 v h
 omega
theorem num_inj (l : List UInt8) (v : Nat) (h : num 0 l = some v) : l = dg l.length v := by
 obtain ⟨n, h1, h2, h3⟩ := num_one l 0 v h
 rw [show v = n by omega]
 exact h3

def mk (t s : Nat) : List UInt8 := dg 8 t ++ dg 8 s
theorem mk_length (t s : Nat) : (mk t s).length = 16 := by rw [mk, List.length_append, dg_length, dg_length]
def parse (l : List UInt8) : Option (Nat × Nat) :=
 if l.length ≠ 16 then none else match num 0 (l.take 8), num 0 (l.drop 8) with
  | some a, some b => some (a, b)
  | _, _ => none
theorem parse_mk (t s : Nat) (ht : t < 32 ^ 8) (hs : s < 32 ^ 8) : parse (mk t s) = some (t, s) := by
 unfold parse
 rw [if_neg (by rw [mk_length]; simp)]
 have h1 : (mk t s).take 8 = dg 8 t := by rw [mk, List.take_append_of_le_length (by rw [dg_length]; omega), List.take_of_length_le (by rw [dg_length]; omega)]
 have h2 : (mk t s).drop 8 = dg 8 s := by rw [mk, List.drop_append_of_le_length (by rw [dg_length]; omega), List.drop_of_length_le (by rw [dg_length]; omega), List.nil_append]
 rw [h1, h2, num_dg 8 t 0 ht, num_dg 8 s 0 hs]
 simp
theorem parse_one (l : List UInt8) (t s : Nat) (h : parse l = some (t, s)) : l = mk t s /\ t < 32 ^ 8 /\ s < 32 ^ 8 := by
 unfold parse at h
 by_cases hl : l.length ≠ 16
 ·rw [if_pos hl] at h; cases h
 ·rw [if_neg hl] at h
  have hl : l.length = 16 := by omega
  have e1 : (l.take 8).length = 8 := by rw [List.length_take]; omega
  have e2 : (l.drop 8).length = 8 := by rw [List.length_drop]; omega
  rcases h1 : num 0 (l.take 8) with _ | a
  ·rw [h1] at h; cases h
  ·rcases h2 : num 0 (l.drop 8) with _ | b
   ·rw [h1, h2] at h; cases h
   ·rw [h1, h2] at h
    simp at h
    obtain ⟨rfl, rfl⟩ := h
    have g1 := num_inj _ _ h1
    have g2 := num_inj _ _ h2
    have g3 := num_lt _ _ h1
    have g4 := num_lt _ _ h2
    rw [e1] at g1 g3
    rw [e2] at g2 g4
    exact ⟨by rw [mk, <- g1, <- g2, List.take_append_drop], g3, g4⟩
theorem parse_slash (l : List UInt8) (h : (parse l).isSome = true) : (47 : UInt8) ∉ l /\ l.length = 16 := by
 obtain ⟨⟨t, s⟩, hp⟩ := Option.isSome_iff_exists.1 h
 obtain ⟨rfl, _, _⟩ := parse_one l t s hp
 refine ⟨fun hm => ?_, mk_length t s⟩
 rw [mk, List.mem_append] at hm
 rcases hm with hm | hm <;> (obtain ⟨k, hk, he⟩ := dg_mem _ _ _ hm; exact sgn_slash k hk he.symm)

def parts : List (List UInt8) := [[99, 104, 117, 110, 107, 115], [105, 110, 100, 101, 120], [109, 101, 116, 97], [109, 97, 114, 107]]
def split (l : List UInt8) : Option (List UInt8 × List UInt8) :=
 if 17 <= l.length /\ l[16]? = some 47 /\ (parse (l.take 16)).isSome = true /\ l.drop 17 ∈ parts then some (l.take 16, l.drop 17) else none

end Go.Bar.Idt

namespace Go.Bar.Frm
open Go.RowKit Go.Bar Go.Bar.Leb

def bstep (c b : Nat) : Nat := if (c + b) % 2 = 1 then (c / 2) ^^^ 2197175160 else c / 2
def bsteps : Nat -> Nat -> Nat -> Nat
 | 0, c, _ => c
 | n + 1, c, b => bstep (bsteps n c b) (b / 2 ^ n)
def crc : Nat -> List UInt8 -> Nat
 | c, [] => c
 | c, x :: l => crc (bsteps 8 c x.toNat) l
def no (c : Nat) : Nat := 4294967295 - c
def more (s : Nat) (l : List UInt8) : Nat := no (crc (no s) l)
def sum (l : List UInt8) : Nat := more 0 l

theorem bstep_lt {c b : Nat} (h : c < 4294967296) : bstep c b < 4294967296 := by
 unfold bstep
 split
 ·exact Nat.xor_lt_two_pow (n := 32) (by omega) (by omega)
 ·omega
theorem bsteps_lt : ∀ (n : Nat) {c b : Nat}, c < 4294967296 -> bsteps n c b < 4294967296
 | 0, _, _, h => h
 | n + 1, _, _, h => bstep_lt (bsteps_lt n h)
theorem crc_lt : ∀ (l : List UInt8) {c : Nat}, c < 4294967296 -> crc c l < 4294967296
 | [], _, h => h
 | _ :: l, _, h => crc_lt l (bsteps_lt 8 h)
theorem no_lt (c : Nat) : no c < 4294967296 := by unfold no; omega
theorem no_no {c : Nat} (h : c < 4294967296) : no (no c) = c := by unfold no; omega
theorem sum_lt (l : List UInt8) : sum l < 4294967296 := no_lt _
theorem crc_append : ∀ (l m : List UInt8) (c : Nat), crc c (l ++ m) = crc (crc c l) m
 | [], _, _ => rfl
 | _ :: l, m, _ => crc_append l m _
theorem more_more (s : Nat) (l m : List UInt8) : more (more s l) m = more s (l ++ m) := by
 unfold more
 rw [no_no (crc_lt l (no_lt _)), crc_append]
theorem more_sum (l m : List UInt8) : more (sum l) m = sum (l ++ m) := more_more 0 l m
theorem crc_snoc (l : List UInt8) (x : UInt8) (c : Nat) : crc c (l ++ [x]) = bsteps 8 (crc c l) x.toNat := crc_append l [x] c

def fs (x : Nat) : Nat := if x % 2 = 1 then (x / 2) ^^^ 2197175160 else x / 2

abbrev Rc := UInt8 × List UInt8
def sum4 (n : Nat) : List UInt8 := [UInt8.ofNat n, UInt8.ofNat (n / 256), UInt8.ofNat (n / 65536), UInt8.ofNat (n / 16777216)]
def num4 (l : List UInt8) : Nat := (l.getD 0 0).toNat + (l.getD 1 0).toNat * 256 + (l.getD 2 0).toNat * 65536 + (l.getD 3 0).toNat * 16777216
def rsum (r : Rc) : Nat := sum (r.1 :: r.2)
def rec (r : Rc) : List UInt8 := r.1 :: u r.2.length ++ sum4 (rsum r) ++ r.2
theorem num4_sum4 (n : Nat) (h : n < 4294967296) (l : List UInt8) : num4 (sum4 n ++ l) = n := by
 simp [num4, sum4]
 omega
theorem sum4_num4 (l : List UInt8) (h : 4 <= l.length) : sum4 (num4 l) = l.take 4 := by
 match l, h with
 | a :: b :: c :: d :: l, _ =>
  have ha := UInt8.toNat_lt a
  have hb := UInt8.toNat_lt b
  have hc := UInt8.toNat_lt c
  have hd := UInt8.toNat_lt d
  simp only [num4, sum4, List.getD_cons_zero, List.getD_cons_succ, List.take_succ_cons, List.take_zero, List.cons.injEq, and_true]
  refine ⟨?_, ?_, ?_, ?_⟩ <;> apply UInt8.toNat_inj.1 <;> simp <;> omega
theorem sum4_len (n : Nat) : (sum4 n).length = 4 := rfl
theorem rec_len (r : Rc) : (rec r).length = 5 + (u r.2.length).length + r.2.length := by
 simp [rec, sum4_len]; omega

def z : Rc := (0, [])
def next : List UInt8 -> Rc × List UInt8 × Nat
 | [] => (z, [], 2)
 | k :: l =>
  if (takeMost l 1048576).2.2 ≠ 0 then (z, [], (takeMost l 1048576).2.2)
  else if (takeMost l 1048576).2.1.length < 4 + (takeMost l 1048576).1 then (z, [], 2)
  else if rsum (k, ((takeMost l 1048576).2.1.drop 4).take (takeMost l 1048576).1) ≠ num4 (takeMost l 1048576).2.1 then (z, [], 4)
  else ((k, ((takeMost l 1048576).2.1.drop 4).take (takeMost l 1048576).1), (takeMost l 1048576).2.1.drop (4 + (takeMost l 1048576).1), 0)

theorem takeMost_one (l : List UInt8) (m : Int) (h : (takeMost l m).2.2 = 0) : u (takeMost l m).1 ++ (takeMost l m).2.1 = l := by
 unfold takeMost at h ⊢
 split
 ·rename_i hc; rw [if_pos hc] at h; cases h
 ·rename_i hc; rw [if_neg hc] at h; exact takeU_one l h
theorem takeMost_le (l : List UInt8) (m : Nat) (h : (takeMost l m).2.2 = 0) : (takeMost l m).1 <= m := by
 unfold takeMost at h ⊢
 split
 ·omega
 ·rename_i hc; rw [if_neg hc] at h; omega

theorem next_one (l : List UInt8) (h : (next l).2.2 = 0) : rec (next l).1 ++ (next l).2.1 = l /\ (next l).1.2.length <= 1048576 := by
 match l with
 | [] => simp [next] at h
 | k :: l =>
  rw [next] at h ⊢
  by_cases h1 : (takeMost l 1048576).2.2 ≠ 0
  ·rw [if_pos h1] at h; exact absurd h h1
  ·rw [if_neg h1] at h ⊢
   have h1 : (takeMost l 1048576).2.2 = 0 := by omega
   have ho := takeMost_one l 1048576 h1
   have hl := takeMost_le l 1048576 h1
   by_cases h2 : (takeMost l 1048576).2.1.length < 4 + (takeMost l 1048576).1
   ·rw [if_pos h2] at h; cases h
   ·rw [if_neg h2] at h ⊢
    by_cases h3 : rsum (k, ((takeMost l 1048576).2.1.drop 4).take (takeMost l 1048576).1) ≠ num4 (takeMost l 1048576).2.1
    ·rw [if_pos h3] at h; cases h
    ·rw [if_neg h3]
     have h3 : rsum (k, ((takeMost l 1048576).2.1.drop 4).take (takeMost l 1048576).1) = num4 (takeMost l 1048576).2.1 := by
      rcases Nat.decEq (rsum (k, ((takeMost l 1048576).2.1.drop 4).take (takeMost l 1048576).1)) (num4 (takeMost l 1048576).2.1) with h | h
      ·exact absurd h h3
      ·exact h
     generalize (takeMost l 1048576).1 = n at *
     generalize (takeMost l 1048576).2.1 = r at *
     have hd : ((r.drop 4).take n).length = n := by rw [List.length_take, List.length_drop]; omega
     refine ⟨?_, by rw [hd]; exact hl⟩
     simp only [rec, hd, h3]
     rw [sum4_num4 r (by omega), List.append_assoc, List.append_assoc, show r.drop (4 + n) = (r.drop 4).drop n by rw [List.drop_drop], List.take_append_drop, List.cons_append, List.take_append_drop, ho]
theorem next_left (l : List UInt8) (h : (next l).2.2 = 0) : (next l).2.1.length + 6 <= l.length := by
 obtain ⟨h1, _⟩ := next_one l h
 have := congrArg List.length h1
 rw [List.length_append, rec_len] at this
 have := u_pos (next l).1.2.length
 omega
theorem next_rec (r : Rc) (t : List UInt8) (h : r.2.length <= 1048576) : next (rec r ++ t) = (r, t, 0) := by
 obtain ⟨k, d⟩ := r
 simp only at h
 have e : rec (k, d) ++ t = k :: (u d.length ++ (sum4 (rsum (k, d)) ++ (d ++ t))) := by simp [rec]
 have ht := takeMost_u d.length (sum4 (rsum (k, d)) ++ (d ++ t)) 1048576 (by omega) (by omega)
 rw [e, next, ht]
 have hl : (sum4 (rsum (k, d)) ++ (d ++ t)).length = 4 + d.length + t.length := by simp [sum4_len]; omega
 have hd4 : (sum4 (rsum (k, d)) ++ (d ++ t)).drop 4 = d ++ t := by rw [List.drop_append_of_le_length (by simp [sum4_len]), List.drop_of_length_le (by simp [sum4_len]), List.nil_append]
 rw [if_neg (by simp), if_neg (by simp only; omega)]
 simp only [hd4, List.take_left']
 rw [if_neg (by simp [num4_sum4 _ (show rsum (k, d) < 4294967296 from sum_lt _)])]
 rw [show (4 + d.length) = 4 + d.length from rfl, <- List.drop_drop, hd4, List.drop_left]

def all : Nat -> List UInt8 -> List Rc × List UInt8
 | 0, l => ([], l)
 | f + 1, l => if (next l).2.2 = 0 then ((next l).1 :: (all f (next l).2.1).1, (all f (next l).2.1).2) else ([], l)
theorem all_stop {f : Nat} {l : List UInt8} (h : (next l).2.2 ≠ 0) : all f l = ([], l) := by
 cases f with
 | zero => rfl
 | succ f => rw [all, if_neg h]
theorem all_go {f : Nat} {l : List UInt8} (h : (next l).2.2 = 0) : all (f + 1) l = ((next l).1 :: (all f (next l).2.1).1, (all f (next l).2.1).2) := by rw [all, if_pos h]
theorem all_fuel : ∀ (f g : Nat) (l : List UInt8), l.length <= f -> l.length <= g -> all f l = all g l
 | 0, g, l, hf, _ => by
  obtain rfl := List.eq_nil_of_length_eq_zero (by omega : l.length = 0)
  rw [all_stop (by simp [next]), all_stop (by simp [next])]
 | f + 1, 0, l, _, hg => by
  obtain rfl := List.eq_nil_of_length_eq_zero (by omega : l.length = 0)
  rw [all_stop (by simp [next]), all_stop (by simp [next])]
 | f + 1, g + 1, l, hf, hg => by
  by_cases h : (next l).2.2 = 0
  ·have := next_left l h
   rw [all_go h, all_go h, all_fuel f g _ (by omega) (by omega)]
  ·rw [all_stop h, all_stop h]
def recs (l : List UInt8) : List Rc := (all l.length l).1
def left (l : List UInt8) : List UInt8 := (all l.length l).2
theorem recs_stop {l : List UInt8} (h : (next l).2.2 ≠ 0) : recs l = [] /\ left l = l := by
 unfold recs left
 rw [all_stop h]
 exact ⟨rfl, rfl⟩
theorem recs_go {l : List UInt8} (h : (next l).2.2 = 0) : recs l = (next l).1 :: recs (next l).2.1 /\ left l = left (next l).2.1 := by
 unfold recs left
 have := next_left l h
 obtain ⟨n, hn⟩ : ∃ n, l.length = n + 1 := ⟨l.length - 1, by omega⟩
 rw [hn, all_go h, all_fuel n _ _ (by omega) (Nat.le_refl _)]
 exact ⟨rfl, rfl⟩
theorem left_le (l : List UInt8) : (left l).length <= l.length := by
 suffices h : ∀ n (l : List UInt8), l.length <= n -> (left l).length <= l.length from h _ l (Nat.le_refl _)
 intro n
 induction n with
 | zero =>
  intro l hl
  obtain rfl := List.eq_nil_of_length_eq_zero (by omega : l.length = 0)
  exact Nat.le_refl _
 | succ n ih =>
  intro l hl
  by_cases h : (next l).2.2 = 0
  ·have h1 := next_left l h
   have := ih (next l).2.1 (by omega)
   rw [(recs_go h).2]
   omega
  ·rw [(recs_stop h).2]
   exact Nat.le_refl _
def laid (rs : List Rc) : List UInt8 := rs.flatMap rec
theorem laid_cons (r : Rc) (rs : List Rc) : laid (r :: rs) = rec r ++ laid rs := by simp [laid]
theorem laid_snoc (rs : List Rc) (r : Rc) : laid (rs ++ [r]) = laid rs ++ rec r := by simp [laid]
theorem recs_laid : ∀ (rs : List Rc) (t : List UInt8), (∀ r ∈ rs, r.2.length <= 1048576) -> (next t).2.2 ≠ 0 -> recs (laid rs ++ t) = rs /\ left (laid rs ++ t) = t
 | [], t, _, ht => by simpa [laid] using recs_stop ht
 | r :: rs, t, h, ht => by
  have h1 := next_rec r (laid rs ++ t) (h r (by simp))
  rw [laid_cons, List.append_assoc]
  obtain ⟨h2, h3⟩ := recs_go (l := rec r ++ (laid rs ++ t)) (by rw [h1])
  obtain ⟨h4, h5⟩ := recs_laid rs t (fun r hr => h r (by simp [hr])) ht
  rw [h1] at h2 h3
  exact ⟨by rw [h2, h4], by rw [h3, h5]⟩
def whole (rs : List Rc) (cut : Nat) : Nat × Nat :=
 match rs with
 | [] => (0, 0)
 | r :: rs => if (rec r).length <= cut then ((whole rs (cut - (rec r).length)).1 + 1, (whole rs (cut - (rec r).length)).2 + (rec r).length) else (0, 0)
theorem next_nil : (next []).2.2 ≠ 0 := by simp [next]

end Go.Bar.Frm

namespace Go.Bar.Met
open Go.RowKit Go.Bar Go.Bar.Leb Go.Bar.Frm Go.Bar.Idt

def txt (l : List UInt8) : List UInt8 := u l.length ++ l
def w64 (z : Int) : Nat := (z % 18446744073709551616).toNat
theorem w64_lt (z : Int) : w64 z < 18446744073709551616 := by unfold w64; omega
theorem w64_of (z : Int) (h : 0 <= z) (h2 : z < 18446744073709551616) : (w64 z : Int) = z := by unfold w64; omega
structure Fl where
 name : List UInt8
 size : Int
 sum : Nat
structure Mt where
 id : List UInt8
 mn : Int
 mx : Int
 lv : Int
 sr : Int
 sm : Int
 fs : List Fl
 ss : List (List UInt8)
def flB (f : Fl) : List UInt8 := txt f.name ++ (u (w64 f.size) ++ u f.sum)
def fields (m : Mt) : List UInt8 := txt m.id ++ (u (w64 m.mn) ++ (u (w64 m.mx) ++ (u (w64 m.lv) ++ (u (w64 m.sr) ++ (u (w64 m.sm) ++ (m.fs.flatMap flB ++ (u m.ss.length ++ m.ss.flatMap txt)))))))

def only (s : List UInt8) (k : UInt8) : List UInt8 × Nat := ((next s).1.2, if (next s).2.2 = 0 /\ ((next s).2.1 ≠ [] \/ (next s).1.1 ≠ k) then 3 else (next s).2.2)
def idOk (l : List UInt8) : Bool := (parse l).isSome

def prev (ss : List (List UInt8)) (i : Nat) : List UInt8 := if i = 0 then [] else ss.getD (i - 1) []
def good (m : Mt) (i : Nat) : Prop := idOk (m.ss.getD i []) = true /\ m.ss.getD i [] ≠ m.id /\ Op.bytesLess (prev m.ss i) (m.ss.getD i []) = true
def chunksN : List UInt8 := [99, 104, 117, 110, 107, 115]
def indexN : List UInt8 := [105, 110, 100, 101, 120]
def fileOk (m : Mt) (i : Nat) : Prop := (m.fs.getD i ⟨[], 0, 0⟩).name = (if i = 0 then chunksN else indexN) /\ 0 <= (m.fs.getD i ⟨[], 0, 0⟩).size /\ (m.fs.getD i ⟨[], 0, 0⟩).size <= 1048576
def sane (m : Mt) : Prop := idOk m.id = true /\ 0 <= m.mn /\ m.mn < m.mx /\ m.mx <= 1099511627776 /\ 1 <= m.lv /\ m.lv <= 9 /\ 0 <= m.sr /\ m.sr <= m.sm /\ m.sm <= 1073741824
def Ok (m : Mt) : Prop := sane m /\ m.fs.length = 2 /\ m.ss.length <= 50 /\ (∀ i, i < 2 -> fileOk m i) /\ ∀ i, i < m.ss.length -> good m i
open Classical in
noncomputable def chk (m : Mt) : Int := if Ok m then 0 else 3
open Classical in
noncomputable def chkB (m : Mt) : Bool := if Ok m then true else false
theorem chk_ok {m : Mt} (h : Ok m) : chk m = 0 := by unfold chk; rw [if_pos h]
theorem chk_no {m : Mt} (h : ¬ Ok m) : chk m = 3 := by unfold chk; rw [if_neg h]
theorem chkB_ok {m : Mt} (h : Ok m) : chkB m = true := by unfold chkB; rw [if_pos h]
theorem chkB_no {m : Mt} (h : ¬ Ok m) : chkB m = false := by unfold chkB; rw [if_neg h]

theorem idOk_len {l : List UInt8} (h : idOk l = true) : l.length = 16 := (parse_slash l h).2
theorem idOk_mk (t s : Nat) (ht : t < 32 ^ 8) (hs : s < 32 ^ 8) : idOk (mk t s) = true := by unfold idOk; rw [parse_mk t s ht hs]; rfl

theorem Ok.src {m : Mt} (h : Ok m) : ∀ s ∈ m.ss, s.length <= 16 := by
 intro s hs
 obtain ⟨i, hi⟩ := List.mem_iff_getElem?.1 hs
 have hl := (List.getElem?_eq_some_iff.1 hi).1
 have := (h.2.2.2.2 i hl).1
 rw [List.getD_eq_getElem?_getD, hi] at this
 exact Nat.le_of_eq (idOk_len this)

theorem only_rec (k : UInt8) (d : List UInt8) (h : d.length <= 1048576) : only (rec (k, d)) k = (d, 0) := by
 have := next_rec (k, d) [] h
 rw [List.append_nil] at this
 unfold only
 rw [this]
 simp

def made (m : Mt) (tick seq : Int) : Mt :=
 ⟨mk (1 + (tick % 1024).toNat) (seq % 1024).toNat, m.mn % 1048576, m.mn % 1048576 + 1 + m.mx % 65536, 1 + m.lv % 8, m.sr % 1024, m.sr % 1024 + m.sm % 1024,
  [⟨chunksN, 1, sum [99]⟩, ⟨indexN, (m.id.take 20).length, sum (m.id.take 20)⟩], (List.range (min m.ss.length 9)).map fun i => mk 0 i⟩

end Go.Bar.Met
