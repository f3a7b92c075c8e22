/-
  Plain mathematics of layer 7 (xor): samples as bits, and back. No program in sight; no condition.
-/
import Derived.Test.YtgabmfibfikdbaaGreatDoorZBitM
import Derived.Test.YtgabmfibfikdbaaGreatDoorZLebM
import Derived.Test.YtgabmfibfikdbaaGreatDoorZLib4

namespace Go.Bar.Xor
open Go.RowKit Go.Bar Go.Bar.Bit Go.Bar.Leb

/-- the sizes of a change, by their number -/
def wd (k : Nat) : Nat := if k = 0 then 0 else if k = 1 then 7 else if k = 2 then 12 else if k = 3 then 20 else 64
def kind (u : Nat) : Nat := if width u ≤ 0 then 0 else if width u ≤ 7 then 1 else if width u ≤ 12 then 2 else if width u ≤ 20 then 3 else 4
def timeB (u : Nat) : List Bool := unary (kind u : Nat) 4 ++ bitsOf u (wd (kind u))
/-- zeros behind a number's last one -/
def tz (x : Nat) : Nat := if x = 0 ∨ x % 2 = 1 then 0 else tz (x / 2) + 1
  termination_by x
  decreasing_by omega
theorem tz_odd {x : Nat} (h : x % 2 = 1) : tz x = 0 := by rw [tz, if_pos (.inr h)]
theorem tz_even {x : Nat} (h0 : 0 < x) (h : x % 2 = 0) : tz x = tz (x / 2) + 1 := by rw [tz, if_neg (by omega)]
theorem tz_spec : ∀ x : Nat, 0 < x → 2 ^ tz x ∣ x ∧ x / 2 ^ tz x % 2 = 1 ∧ tz x < width x := by
  intro x
  induction x using Nat.strongRecOn with
  | _ x ih =>
    intro h0
    rcases Nat.mod_two_eq_zero_or_one x with h | h
    · obtain ⟨h1, h2, h3⟩ := ih (x / 2) (by omega) (by omega)
      rw [tz_even h0 h, width_pos x h0]
      refine ⟨?_, ?_, by omega⟩
      · rw [Nat.pow_succ, Nat.mul_comm]
        obtain ⟨c, hc⟩ := h1
        exact ⟨c, by rw [Nat.mul_assoc, ← hc]; omega⟩
      · rw [Nat.pow_succ, Nat.mul_comm, ← Nat.div_div_eq_div_mul]
        exact h2
    · rw [tz_odd h, width_pos x h0]
      simp [h]
/-- below a number's last one its bits are zeros -/
theorem tz_low : ∀ (x j : Nat), j < tz x → x / 2 ^ j % 2 = 0 := by
  intro x
  induction x using Nat.strongRecOn with
  | _ x ih =>
    intro j hj
    by_cases h0 : x = 0 ∨ x % 2 = 1
    · rw [tz, if_pos h0] at hj; omega
    · rw [tz, if_neg h0] at hj
      rcases j with _ | j
      · simp; omega
      · rw [Nat.pow_succ, Nat.mul_comm, ← Nat.div_div_eq_div_mul]
        exact ih (x / 2) (by omega) j (by omega)

/-- the window serves -/
def fitW (lead wide x : Nat) : Prop := 0 < wide ∧ lead ≤ 64 - width x ∧ 64 - lead - wide ≤ tz x
instance (lead wide x : Nat) : Decidable (fitW lead wide x) := by unfold fitW; exact inferInstance
/-- the window from then on -/
def valL (lead wide x : Nat) : Nat := if x = 0 ∨ fitW lead wide x then lead else 64 - width x
def valW (lead wide x : Nat) : Nat := if x = 0 ∨ fitW lead wide x then wide else width x - tz x
def valB (lead wide x : Nat) : List Bool :=
  if x = 0 then [false]
  else if fitW lead wide x then [true] ++ ([false] ++ bitsOf (x / 2 ^ (64 - lead - wide)) wide)
  else [true] ++ ([true] ++ (bitsOf (64 - width x) 6 ++ (bitsOf (width x - tz x - 1) 6 ++ bitsOf (x / 2 ^ tz x) (width x - tz x))))

/-- a chunk -/
structure St where
  bits : List Bool
  n : Nat
  t : Int
  v : Nat
  step : Int
  lead : Nat
  wide : Nat
def St.zero : St := ⟨[], 0, 0, 0, 0, 0, 0⟩
def St.put (s : St) (x : Sm) : St :=
  if s.n = 0 then ⟨s.bits ++ bitsOf x.1.toNat 41 ++ bitsOf x.2 64, 1, x.1, x.2, s.step, s.lead, s.wide⟩
  else ⟨s.bits ++ timeB (fold (x.1 - s.t - s.step)) ++ valB s.lead s.wide (x.2 ^^^ s.v), s.n + 1, x.1, x.2, x.1 - s.t, valL s.lead s.wide (x.2 ^^^ s.v), valW s.lead s.wide (x.2 ^^^ s.v)⟩
/-- the error's number -/
def err (s : St) (x : Sm) : Nat := if x.1 < 0 ∨ 1099511627776 < x.1 then 1 else if 0 < s.n ∧ x.1 ≤ s.t then 10 else if s.n = 120 then 7 else 0
def text (s : St) : List UInt8 := u s.n ++ (u s.bits.length ++ pack s.bits)
/-- samples one by one, up to the first error -/
def ofS : St → List Sm → St × Nat
  | s, [] => (s, 0)
  | s, x :: l => if err s x = 0 then ofS (s.put x) l else (s, err s x)

/-- what holds of a chunk -/
structure St.Ok (s : St) : Prop where
  n : s.n ≤ 120
  t : 0 ≤ s.t ∧ s.t ≤ 1099511627776
  v : s.v < 18446744073709551616
  step : 0 ≤ s.step ∧ s.step ≤ 1099511627776
  win : s.lead + s.wide ≤ 64
  len : s.bits.length ≤ 150 * s.n
  emp : s.n = 0 → s.step = 0 ∧ s.lead = 0 ∧ s.wide = 0
theorem St.zero_ok : St.zero.Ok := ⟨by decide, by decide, by decide, by decide, by decide, by decide, fun _ => ⟨rfl, rfl, rfl⟩⟩

theorem wd_le (k : Nat) : wd k ≤ 64 := by unfold wd; repeat' split
                                          all_goals omega
theorem kind_le (u : Nat) : kind u ≤ 4 := by unfold kind; repeat' split
                                             all_goals omega
theorem kind_wd (u : Nat) (h : u < 18446744073709551616) : width u ≤ wd (kind u) := by
  have := width_le u h
  unfold kind wd
  repeat' split
  all_goals omega
theorem ones_len (n : Nat) (h : n ≤ 4) : (unary (n : Nat) 4).length ≤ 4 := by
  unfold unary
  have h1 : ones (n : Int) 4 = n := by unfold ones; omega
  rw [h1, List.length_append, List.length_replicate]
  split <;> simp <;> omega
theorem timeB_len (u : Nat) : (timeB u).length ≤ 68 := by
  unfold timeB
  rw [List.length_append, bitsOf_length]
  have := ones_len (kind u) (kind_le u)
  have := wd_le (kind u)
  omega
theorem xor_lt {a b : Nat} (ha : a < 18446744073709551616) (hb : b < 18446744073709551616) : a ^^^ b < 18446744073709551616 := Nat.xor_lt_two_pow (n := 64) (by simpa using ha) (by simpa using hb)
theorem valB_len (lead wide x : Nat) (hx : x < 18446744073709551616) (hw : lead + wide ≤ 64) : (valB lead wide x).length ≤ 78 := by
  have := width_le x hx
  unfold valB
  split
  · simp
  · split
    · simp [bitsOf_length]; omega
    · simp [bitsOf_length]; omega
theorem win_ok (lead wide x : Nat) (hw : lead + wide ≤ 64) (hx : x < 18446744073709551616) : valL lead wide x + valW lead wide x ≤ 64 := by
  unfold valL valW
  have := width_le x hx
  split <;> omega
theorem err_zero {s : St} {x : Sm} (h : err s x = 0) : 0 ≤ x.1 ∧ x.1 ≤ 1099511627776 ∧ (0 < s.n → s.t < x.1) ∧ s.n ≠ 120 := by
  unfold err at h
  repeat' split at h
  all_goals first | exact absurd h (by decide) | (refine ⟨?_, ?_, ?_, ?_⟩ <;> omega)
theorem St.Ok.put {s : St} {x : Sm} (h : s.Ok) (he : err s x = 0) (hx : x.2 < 18446744073709551616) : (s.put x).Ok := by
  obtain ⟨h1, h2, h3, h4⟩ := err_zero he
  have hn := h.n
  have ht := h.t
  unfold St.put
  split
  · next h0 =>
    have hl := h.len
    obtain ⟨g1, g2, g3⟩ := h.emp h0
    refine ⟨by show 1 ≤ 120; omega, ⟨h1, h2⟩, hx, h.step, h.win, ?_, fun h => absurd h (by show ¬ (1 = 0); omega)⟩
    show (s.bits ++ bitsOf x.1.toNat 41 ++ bitsOf x.2 64).length ≤ 150 * 1
    simp [bitsOf_length]; omega
  · next h0 =>
    have hl := h.len
    have h5 := h3 (by omega)
    have hxx := xor_lt hx h.v
    refine ⟨by show s.n + 1 ≤ 120; omega, ⟨h1, h2⟩, hx, ⟨by show 0 ≤ x.1 - s.t; omega, by show x.1 - s.t ≤ _; omega⟩, win_ok _ _ _ h.win hxx, ?_, fun h => absurd h (by show ¬ (s.n + 1 = 0); omega)⟩
    show (s.bits ++ timeB (fold (x.1 - s.t - s.step)) ++ valB s.lead s.wide (x.2 ^^^ s.v)).length ≤ 150 * (s.n + 1)
    have := timeB_len (fold (x.1 - s.t - s.step))
    have := valB_len s.lead s.wide (x.2 ^^^ s.v) hxx h.win
    simp only [List.length_append]; omega
theorem put_n (s : St) (x : Sm) : (s.put x).n = s.n + 1 ∧ (s.put x).t = x.1 ∧ (s.put x).v = x.2 := by
  unfold St.put; split
  · next h => exact ⟨by show 1 = s.n + 1; omega, rfl, rfl⟩
  · exact ⟨rfl, rfl, rfl⟩

/-- where the eye stands -/
structure Ey where
  p : Nat
  e : Nat
  t : Int
  v : Nat
  step : Int
  lead : Nat
  wide : Nat
def timeR (L : List Bool) (y : Ey) : Int × Ey :=
  (wrap64 (y.t + wrap64 (y.step + unfold (eyeBits L (eyeUnary L y.p y.e 4).2.1 (eyeUnary L y.p y.e 4).2.2 (wd (eyeUnary L y.p y.e 4).1 : Nat)).1)),
    { y with p := (eyeBits L (eyeUnary L y.p y.e 4).2.1 (eyeUnary L y.p y.e 4).2.2 (wd (eyeUnary L y.p y.e 4).1 : Nat)).2.1, e := (eyeBits L (eyeUnary L y.p y.e 4).2.1 (eyeUnary L y.p y.e 4).2.2 (wd (eyeUnary L y.p y.e 4).1 : Nat)).2.2, step := wrap64 (y.step + unfold (eyeBits L (eyeUnary L y.p y.e 4).2.1 (eyeUnary L y.p y.e 4).2.2 (wd (eyeUnary L y.p y.e 4).1 : Nat)).1) })
/-- the window, told anew -/
def winR (L : List Bool) (y : Ey) (p e : Nat) : Ey :=
  { y with p := (eyeBits L (eyeBits L p e 6).2.1 (eyeBits L p e 6).2.2 6).2.1, e := (eyeBits L (eyeBits L p e 6).2.1 (eyeBits L p e 6).2.2 6).2.2, lead := (eyeBits L p e 6).1, wide := (eyeBits L (eyeBits L p e 6).2.1 (eyeBits L p e 6).2.2 6).1 + 1 }
/-- the bits in the window -/
def inR (L : List Bool) (y : Ey) : Nat × Nat × Ey :=
  if y.wide = 0 ∨ 64 < y.lead + y.wide then (0, 3, y)
  else (y.v ^^^ ((eyeBits L y.p y.e (y.wide : Nat)).1 * 2 ^ (64 - y.lead - y.wide)), 0, { y with p := (eyeBits L y.p y.e (y.wide : Nat)).2.1, e := (eyeBits L y.p y.e (y.wide : Nat)).2.2 })
def valR (L : List Bool) (y : Ey) : Nat × Nat × Ey :=
  if (eyeBit L y.p y.e).1 = false then (y.v, 0, { y with p := (eyeBit L y.p y.e).2.1, e := (eyeBit L y.p y.e).2.2 })
  else if (eyeBit L (eyeBit L y.p y.e).2.1 (eyeBit L y.p y.e).2.2).1 = true then inR L (winR L y (eyeBit L (eyeBit L y.p y.e).2.1 (eyeBit L y.p y.e).2.2).2.1 (eyeBit L (eyeBit L y.p y.e).2.1 (eyeBit L y.p y.e).2.2).2.2)
  else inR L { y with p := (eyeBit L (eyeBit L y.p y.e).2.1 (eyeBit L y.p y.e).2.2).2.1, e := (eyeBit L (eyeBit L y.p y.e).2.1 (eyeBit L y.p y.e).2.2).2.2 }
/-- the first sample -/
def firstR (L : List Bool) (y : Ey) : Sm × Nat × Ey :=
  ((((eyeBits L y.p y.e 41).1 : Int), (eyeBits L (eyeBits L y.p y.e 41).2.1 (eyeBits L y.p y.e 41).2.2 64).1), (eyeBits L (eyeBits L y.p y.e 41).2.1 (eyeBits L y.p y.e 41).2.2 64).2.2,
    { y with p := (eyeBits L (eyeBits L y.p y.e 41).2.1 (eyeBits L y.p y.e 41).2.2 64).2.1, e := (eyeBits L (eyeBits L y.p y.e 41).2.1 (eyeBits L y.p y.e 41).2.2 64).2.2 })
/-- each further one -/
def restR (L : List Bool) (y : Ey) : Sm × Nat × Ey :=
  if (valR L (timeR L y).2).2.2.e ≠ 0 then ((0, 0), (valR L (timeR L y).2).2.2.e, (valR L (timeR L y).2).2.2)
  else (((timeR L y).1, (valR L (timeR L y).2).1), if (valR L (timeR L y).2).2.1 = 0 ∧ (timeR L y).1 ≤ y.t then 3 else (valR L (timeR L y).2).2.1, (valR L (timeR L y).2).2.2)
def nextR (L : List Bool) (y : Ey) (first : Bool) : Sm × Nat × Ey := if first = true then firstR L y else restR L y
def loopR (L : List Bool) : Nat → Nat → Ey → List Sm → List Sm × Nat
  | 0, _, _, acc => (acc, 0)
  | k + 1, i, y, acc =>
    if (nextR L y (i == 0)).2.1 ≠ 0 then ([], (nextR L y (i == 0)).2.1)
    else if 1099511627776 < (nextR L y (i == 0)).1.1 ∨ (nextR L y (i == 0)).1.1 < 0 then ([], 3)
    else loopR L k (i + 1) { (nextR L y (i == 0)).2.2 with t := (nextR L y (i == 0)).1.1, v := (nextR L y (i == 0)).1.2 } (acc ++ [(nextR L y (i == 0)).1])
def Ey.zero : Ey := ⟨0, 0, 0, 0, 0, 0, 0⟩

/-! what is written is taken again -/
/-- the eye stands behind what was written -/
structure Sync (y : Ey) (s : St) : Prop where
  e : y.e = 0
  t : y.t = s.t
  v : y.v = s.v
  step : y.step = s.step
  lead : y.lead = s.lead
  wide : y.wide = s.wide

theorem clip_nat (n : Nat) (h : n ≤ 64) : clip (n : Int) = n := by unfold clip; omega
theorem mod_of_width {u n : Nat} (h : width u ≤ n) : u % 2 ^ n = u := Nat.mod_eq_of_lt (Nat.lt_of_lt_of_le (width_spec u).1 (Nat.pow_le_pow_right (by omega) h))
theorem wrap64_of (z : Int) (h1 : -9223372036854775808 ≤ z) (h2 : z ≤ 9223372036854775807) : wrap64 z = z := by
  unfold wrap64; omega

theorem timeR_of {L rest : List Bool} {y : Ey} {x : Int} (he : y.e = 0) (ht : 0 ≤ y.t ∧ y.t ≤ 1099511627776) (hs : 0 ≤ y.step ∧ y.step ≤ 1099511627776) (hx : 0 ≤ x ∧ x ≤ 1099511627776)
    (h : L.drop y.p = timeB (fold (x - y.t - y.step)) ++ rest) : timeR L y = (x, { y with p := y.p + (timeB (fold (x - y.t - y.step))).length, step := x - y.t }) := by
  obtain ⟨u, hu⟩ : ∃ u, u = fold (x - y.t - y.step) := ⟨_, rfl⟩
  have hu2 : u < 18446744073709551616 := by rw [hu]; exact fold_lt _ (by omega) (by omega)
  have huf : unfold u = x - y.t - y.step := by rw [hu, unfold_fold]
  rw [← hu] at h ⊢
  unfold timeB at h
  rw [List.append_assoc] at h
  have h1 := eyeUnary_of h
  have hk := kind_le u
  have ho : ones (kind u : Int) 4 = kind u := by unfold ones; omega
  rw [ho] at h1
  have h2 : L.drop (y.p + (unary (kind u : Int) 4).length) = bitsOf u (clip ((wd (kind u) : Nat) : Int)) ++ rest := by
    rw [← List.drop_drop, h, List.drop_left, clip_nat _ (wd_le _)]
  have h3 := eyeBits_of h2
  rw [clip_nat _ (wd_le _), mod_of_width (kind_wd u hu2)] at h3
  unfold timeR
  rw [he, h1]
  simp only
  rw [h3]
  simp only
  rw [huf, show y.step + (x - y.t - y.step) = x - y.t by omega, wrap64_of (x - y.t) (by omega) (by omega), show y.t + (x - y.t) = x by omega, wrap64_of x (by omega) (by omega)]
  rw [show (timeB u).length = (unary (kind u : Int) 4).length + wd (kind u) by unfold timeB; rw [List.length_append, bitsOf_length], ← Nat.add_assoc, ← he]
theorem low_bits {x a b : Nat} (h1 : 2 ^ a ∣ x) (h2 : x < 2 ^ (a + b)) : (x / 2 ^ a) % 2 ^ b * 2 ^ a = x := by
  have h3 : x / 2 ^ a < 2 ^ b := by
    rw [Nat.div_lt_iff_lt_mul (Nat.two_pow_pos _), ← Nat.pow_add, Nat.add_comm]; exact h2
  rw [Nat.mod_eq_of_lt h3, Nat.div_mul_cancel h1]
theorem inR_of {L rest : List Bool} {y : Ey} {x : Nat} (he : y.e = 0) (hw : 0 < y.wide) (hl : y.lead + y.wide ≤ 64) (hd : 2 ^ (64 - y.lead - y.wide) ∣ x) (hlt : x < 2 ^ (64 - y.lead))
    (h : L.drop y.p = bitsOf (x / 2 ^ (64 - y.lead - y.wide)) y.wide ++ rest) : inR L y = (y.v ^^^ x, 0, { y with p := y.p + y.wide }) := by
  have h' : L.drop y.p = bitsOf (x / 2 ^ (64 - y.lead - y.wide)) (clip ((y.wide : Nat) : Int)) ++ rest := by rw [clip_nat _ (by omega)]; exact h
  have h1 := eyeBits_of h'
  rw [clip_nat _ (by omega)] at h1
  unfold inR
  rw [if_neg (by omega), he, h1]
  simp only
  rw [low_bits hd (by rw [show 64 - y.lead - y.wide + y.wide = 64 - y.lead by omega]; exact hlt)]
theorem valR_of {L rest : List Bool} {y : Ey} {x : Nat} (he : y.e = 0) (hw : y.lead + y.wide ≤ 64) (hx : x < 18446744073709551616)
    (h : L.drop y.p = valB y.lead y.wide x ++ rest) : valR L y = (y.v ^^^ x, 0, { y with p := y.p + (valB y.lead y.wide x).length, lead := valL y.lead y.wide x, wide := valW y.lead y.wide x }) := by
  unfold valR
  unfold valB at h ⊢
  unfold valL valW
  rw [he]
  by_cases h0 : x = 0
  · rw [if_pos h0] at h
    rw [eyeBit_of h]
    simp only [if_true]
    rw [if_pos h0, if_pos (.inl h0), if_pos (.inl h0), h0, Nat.xor_zero]
    simp
  · rw [if_neg h0] at h
    obtain ⟨t1, t2, t3⟩ := tz_spec x (by omega)
    have hwx := width_le x hx
    have hsp := (width_spec x).1
    by_cases hf : fitW y.lead y.wide x
    · rw [if_pos hf, List.append_assoc] at h
      have h1 := eyeBit_of h
      have h2 : L.drop (y.p + 1) = [false] ++ (bitsOf (x / 2 ^ (64 - y.lead - y.wide)) y.wide ++ rest) := by
        rw [← List.drop_drop, h, List.append_assoc]; rfl
      have h3 := eyeBit_of h2
      have h4 : L.drop (y.p + 1 + 1) = bitsOf (x / 2 ^ (64 - y.lead - y.wide)) y.wide ++ rest := by
        rw [← List.drop_drop, h2]; rfl
      rw [h1]
      simp only
      rw [if_neg (by decide), h3]
      simp only
      rw [if_neg (by decide), if_neg h0, if_pos hf, if_pos (.inr hf), if_pos (.inr hf)]
      obtain ⟨f1, f2, f3⟩ := hf
      have := inR_of (L := L) (rest := rest) (y := { y with p := y.p + 1 + 1, e := 0 }) (x := x) rfl f1 hw (Nat.dvd_trans (Nat.pow_dvd_pow 2 f3) t1) (Nat.lt_of_lt_of_le hsp (Nat.pow_le_pow_right (by omega) (by show width x ≤ 64 - y.lead; omega))) h4
      rw [this]
      simp only [List.length_append, bitsOf_length, List.length_cons, List.length_nil]
      congr 2
      simp only [Ey.mk.injEq, and_true]
      first | omega | exact ⟨by omega, he.symm⟩
    · rw [if_neg hf, List.append_assoc] at h
      have h1 := eyeBit_of h
      have h2 : L.drop (y.p + 1) = [true] ++ (bitsOf (64 - width x) 6 ++ (bitsOf (width x - tz x - 1) 6 ++ (bitsOf (x / 2 ^ tz x) (width x - tz x) ++ rest))) := by
        rw [← List.drop_drop, h]; simp only [List.append_assoc]; rfl
      have h3 := eyeBit_of h2
      have h4 : L.drop (y.p + 1 + 1) = bitsOf (64 - width x) (clip 6) ++ (bitsOf (width x - tz x - 1) 6 ++ (bitsOf (x / 2 ^ tz x) (width x - tz x) ++ rest)) := by
        rw [← List.drop_drop, h2]; rfl
      have h5 := eyeBits_of h4
      have h6 : L.drop (y.p + 1 + 1 + clip 6) = bitsOf (width x - tz x - 1) (clip 6) ++ (bitsOf (x / 2 ^ tz x) (width x - tz x) ++ rest) := by
        rw [← List.drop_drop, h4, List.drop_left' (bitsOf_length _ _)]; rfl
      have h7 := eyeBits_of h6
      have h8 : L.drop (y.p + 1 + 1 + clip 6 + clip 6) = bitsOf (x / 2 ^ tz x) (width x - tz x) ++ rest := by
        rw [← List.drop_drop, h6, List.drop_left' (bitsOf_length _ _)]
      have c6 : clip 6 = 6 := rfl
      have hw1 := width_pos x (by omega)
      have m1 : (64 - width x) % 2 ^ clip 6 = 64 - width x := Nat.mod_eq_of_lt (by rw [c6]; omega)
      have m2 : (width x - tz x - 1) % 2 ^ clip 6 = width x - tz x - 1 := Nat.mod_eq_of_lt (by rw [c6]; omega)
      rw [m1] at h5
      rw [m2] at h7
      rw [h1]
      simp only
      rw [if_neg (by decide), h3]
      simp only
      rw [if_pos trivial, if_neg h0, if_neg hf, if_neg (fun h => h.elim h0 hf), if_neg (fun h => h.elim h0 hf)]
      unfold winR
      rw [h5]
      simp only
      rw [h7]
      simp only
      have hwd : width x - tz x - 1 + 1 = width x - tz x := by omega
      have hsh : 64 - (64 - width x) - (width x - tz x) = tz x := by omega
      have := inR_of (L := L) (rest := rest) (y := { y with p := y.p + 1 + 1 + clip 6 + clip 6, e := 0, lead := 64 - width x, wide := width x - tz x }) (x := x) rfl (by show 0 < width x - tz x; omega) (by show 64 - width x + (width x - tz x) ≤ 64; omega) (by show 2 ^ (64 - (64 - width x) - (width x - tz x)) ∣ x; rw [hsh]; exact t1) (by show x < 2 ^ (64 - (64 - width x)); rw [show 64 - (64 - width x) = width x by omega]; exact hsp) (by show L.drop (y.p + 1 + 1 + clip 6 + clip 6) = bitsOf (x / 2 ^ (64 - (64 - width x) - (width x - tz x))) (width x - tz x) ++ rest; rw [hsh]; exact h8)
      rw [hwd, this]
      simp only [List.length_append, bitsOf_length, List.length_cons, List.length_nil, c6]
      congr 2
      simp only [Ey.mk.injEq, and_true]
      first | omega | exact ⟨by omega, he.symm⟩

end Go.Bar.Xor
