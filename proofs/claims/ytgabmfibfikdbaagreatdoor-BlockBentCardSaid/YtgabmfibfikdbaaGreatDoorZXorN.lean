/-
  Plain mathematics of layer 7 (xor): the bytes of samples are samples again; there is one spelling. No program in sight; no condition.
-/
import Derived.Test.YtgabmfibfikdbaaGreatDoorZXorM
import Derived.Test.YtgabmfibfikdbaaGreatDoorZLebM
import Derived.Lib.Bytealg

namespace Go.Bar.Xor
open Go.RowKit Go.Bar Go.Bar.Bit Go.Bar.Leb

theorem firstR_of {L rest : List Bool} {y : Ey} {x : Sm} (he : y.e = 0) (h0 : 0 ≤ x.1) (h1 : x.1 ≤ 1099511627776) (h2 : x.2 < 18446744073709551616)
    (h : L.drop y.p = bitsOf x.1.toNat 41 ++ (bitsOf x.2 64 ++ rest)) : firstR L y = (x, 0, { y with p := y.p + 105, e := 0 }) := by
  have c41 : clip 41 = 41 := rfl
  have c64 : clip 64 = 64 := rfl
  have g1 : L.drop y.p = bitsOf x.1.toNat (clip 41) ++ (bitsOf x.2 64 ++ rest) := h
  have g2 := eyeBits_of g1
  have g3 : L.drop (y.p + clip 41) = bitsOf x.2 (clip 64) ++ rest := by
    rw [← List.drop_drop, g1, List.drop_left' (bitsOf_length _ _)]; rfl
  have g4 := eyeBits_of g3
  rw [c41, Nat.mod_eq_of_lt (show x.1.toNat < 2 ^ 41 by omega)] at g2
  rw [c64, c41, Nat.mod_eq_of_lt (show x.2 < 2 ^ 64 by omega)] at g4
  unfold firstR
  rw [he, g2]
  simp only
  rw [g4]
  obtain ⟨a, b⟩ := x
  simp only at h0 ⊢
  rw [show ((a.toNat : Nat) : Int) = a by omega]
/-- what a sample adds -/
def inc (s : St) (x : Sm) : List Bool := if s.n = 0 then bitsOf x.1.toNat 41 ++ bitsOf x.2 64 else timeB (fold (x.1 - s.t - s.step)) ++ valB s.lead s.wide (x.2 ^^^ s.v)
theorem put_bits (s : St) (x : Sm) : (s.put x).bits = s.bits ++ inc s x := by
  unfold St.put inc; split <;> simp
def more : St → List Sm → List Bool
  | _, [] => []
  | s, x :: l => inc s x ++ more (s.put x) l
theorem ofS_more : ∀ (l : List Sm) (s s' : St), ofS s l = (s', 0) → s'.bits = s.bits ++ more s l ∧ s'.n = s.n + l.length
  | [], s, s', h => by
    simp only [ofS, Prod.mk.injEq, and_true] at h
    subst h; simp [more]
  | x :: l, s, s', h => by
    rw [ofS] at h
    by_cases he : err s x = 0
    · rw [if_pos he] at h
      obtain ⟨h1, h2⟩ := ofS_more l _ s' h
      rw [put_bits] at h1
      rw [(put_n s x).1] at h2
      exact ⟨by rw [h1, more, List.append_assoc], by rw [h2, List.length_cons]; omega⟩
    · rw [if_neg he] at h
      simp only [Prod.mk.injEq] at h
      exact absurd h.2 he
theorem ofS_ok : ∀ (l : List Sm) (s : St), s.Ok → (∀ x ∈ l, x.2 < 18446744073709551616) → (ofS s l).1.Ok
  | [], s, h, _ => h
  | x :: l, s, h, hx => by
    rw [ofS]
    split
    · next he => exact ofS_ok l _ (h.put he (hx x (by simp))) (fun y hy => hx y (by simp [hy]))
    · exact h

theorem restR_of {L rest : List Bool} {y : Ey} {s : St} {x : Sm} (hy : Sync y s) (hs : s.Ok) (he : err s x = 0) (hn : 0 < s.n) (hx : x.2 < 18446744073709551616)
    (h : L.drop y.p = timeB (fold (x.1 - s.t - s.step)) ++ (valB s.lead s.wide (x.2 ^^^ s.v) ++ rest)) :
    restR L y = (x, 0, ⟨y.p + (timeB (fold (x.1 - s.t - s.step))).length + (valB s.lead s.wide (x.2 ^^^ s.v)).length, 0, y.t, y.v, x.1 - s.t, valL s.lead s.wide (x.2 ^^^ s.v), valW s.lead s.wide (x.2 ^^^ s.v)⟩) := by
  obtain ⟨e1, e2, e3, e4⟩ := err_zero he
  obtain ⟨k0, k1, k2, k3, k4, k5⟩ := hy
  obtain ⟨p, e, t, v, st, ld, wi⟩ := y
  simp only at k0 k1 k2 k3 k4 k5 h
  subst k0; subst k1; subst k2; subst k3; subst k4; subst k5
  have hxx := xor_lt hx hs.v
  have h1 := timeR_of (L := L) (y := ⟨p, 0, s.t, s.v, s.step, s.lead, s.wide⟩) (x := x.1) (rest := valB s.lead s.wide (x.2 ^^^ s.v) ++ rest) rfl hs.t hs.step ⟨e1, e2⟩ h
  have h2 : L.drop (p + (timeB (fold (x.1 - s.t - s.step))).length) = valB s.lead s.wide (x.2 ^^^ s.v) ++ rest := by
    rw [← List.drop_drop, h, List.drop_left]
  have h3 := valR_of (L := L) (rest := rest) (y := ⟨p + (timeB (fold (x.1 - s.t - s.step))).length, 0, s.t, s.v, x.1 - s.t, s.lead, s.wide⟩) (x := x.2 ^^^ s.v) rfl hs.win hxx h2
  simp only at h1 h3
  unfold restR
  rw [h1]
  simp only
  rw [h3]
  simp only
  have hv : s.v ^^^ (x.2 ^^^ s.v) = x.2 := by
    rw [Nat.xor_comm x.2 s.v, ← Nat.xor_assoc, Nat.xor_self, Nat.zero_xor]
  rw [if_neg (by omega), hv, if_neg (fun hh => by have := e3 hn; omega)]
theorem loopR_of (L : List Bool) : ∀ (l : List Sm) (s s' : St) (y : Ey) (acc : List Sm) (rest : List Bool), Sync y s → s.Ok → (∀ x ∈ l, x.2 < 18446744073709551616) → ofS s l = (s', 0) → L.drop y.p = more s l ++ rest →
    loopR L l.length s.n y acc = (acc ++ l, 0)
  | [], s, s', y, acc, rest, _, _, _, _, _ => by simp [loopR]
  | x :: l, s, s', y, acc, rest, hy, hs, hx, ho, hd => by
    rw [ofS] at ho
    by_cases he : err s x = 0
    · rw [if_pos he] at ho
      obtain ⟨e1, e2, e3, e4⟩ := err_zero he
      have hx0 := hx x (by simp)
      rw [more, List.append_assoc] at hd
      obtain ⟨pn, pt, pv⟩ := put_n s x
      have ih := fun y' h1 h3 => loopR_of L l (s.put x) s' y' (acc ++ [x]) rest h1 (hs.put he hx0) (fun z hz => hx z (by simp [hz])) ho h3
      rw [pn] at ih
      rw [List.length_cons, loopR]
      have hne : ∃ y', nextR L y (s.n == 0) = (x, 0, y') ∧ Sync { y' with t := x.1, v := x.2 } (s.put x) ∧ L.drop y'.p = more (s.put x) l ++ rest := by
        unfold nextR
        unfold inc at hd
        by_cases h0 : s.n = 0
        · rw [if_pos h0, List.append_assoc] at hd
          rw [if_pos (by simp [h0])]
          refine ⟨_, firstR_of hy.e e1 e2 hx0 hd, ⟨rfl, pt.symm, pv.symm, ?_, ?_, ?_⟩, ?_⟩
          · unfold St.put; rw [if_pos h0]; exact hy.step
          · unfold St.put; rw [if_pos h0]; exact hy.lead
          · unfold St.put; rw [if_pos h0]; exact hy.wide
          · show L.drop (y.p + 105) = _
            rw [show y.p + 105 = y.p + 41 + 64 by omega, ← List.drop_drop, ← List.drop_drop, hd, List.drop_left' (bitsOf_length _ _), List.drop_left' (bitsOf_length _ _)]
        · rw [if_neg h0, List.append_assoc] at hd
          rw [if_neg (by simp [h0])]
          refine ⟨_, restR_of hy hs he (by omega) hx0 hd, ⟨rfl, pt.symm, pv.symm, ?_, ?_, ?_⟩, ?_⟩
          · unfold St.put; rw [if_neg h0]
          · unfold St.put; rw [if_neg h0]
          · unfold St.put; rw [if_neg h0]
          · show L.drop (y.p + _ + _) = _
            rw [← List.drop_drop, ← List.drop_drop, hd, List.drop_left, List.drop_left]
      obtain ⟨y', hn1, hn2, hn3⟩ := hne
      rw [hn1]
      simp only
      rw [if_neg (by omega), if_neg (by omega), ih _ hn2 hn3, List.append_assoc]
      rfl
    · rw [if_neg he] at ho
      simp only [Prod.mk.injEq] at ho
      exact absurd ho.2 he

/-- the samples of what is behind the two numbers -/
def bodyR (w : List UInt8) (n : Nat) (rest : List UInt8) (m : Nat) : List Sm × Nat :=
  if (loopR ((unpack rest).take m) n 0 Ey.zero []).2 ≠ 0 then ([], (loopR ((unpack rest).take m) n 0 Ey.zero []).2)
  else if (ofS St.zero (loopR ((unpack rest).take m) n 0 Ey.zero []).1).2 ≠ 0 ∨ text (ofS St.zero (loopR ((unpack rest).take m) n 0 Ey.zero []).1).1 ≠ w then ([], 3)
  else ((loopR ((unpack rest).take m) n 0 Ey.zero []).1, 0)
def samplesR (w : List UInt8) : List Sm × Nat :=
  if (takeMost w 120).2.2 ≠ 0 then ([], (takeMost w 120).2.2)
  else if (takeMost (takeMost w 120).2.1 1048576).2.2 ≠ 0 then ([], (takeMost (takeMost w 120).2.1 1048576).2.2)
  else if (takeMost (takeMost w 120).2.1 1048576).2.1.length ≠ ((takeMost (takeMost w 120).2.1 1048576).1 + 7) / 8 then ([], 3)
  else bodyR w (takeMost w 120).1 (takeMost (takeMost w 120).2.1 1048576).2.1 (takeMost (takeMost w 120).2.1 1048576).1

/-- WHAT IS WRITTEN IS TAKEN AGAIN -/
theorem samplesR_of {l : List Sm} {s : St} (h : ofS St.zero l = (s, 0)) (hx : ∀ x ∈ l, x.2 < 18446744073709551616) : samplesR (text s) = (l, 0) := by
  have hok : s.Ok := by
    have := ofS_ok l St.zero St.zero_ok hx
    rw [h] at this
    exact this
  obtain ⟨hb, hn⟩ := ofS_more l _ _ h
  have hn' : s.n = l.length := by rw [hn]; show 0 + l.length = _; omega
  have hb' : s.bits = more St.zero l := by rw [hb]; rfl
  have h1 := hok.n
  have h2 := hok.len
  unfold samplesR text
  rw [takeMost_u s.n _ 120 (by omega) (by omega)]
  simp only
  rw [if_neg (by omega), takeMost_u s.bits.length _ 1048576 (by omega) (by omega)]
  simp only
  rw [if_neg (by omega), pack_length, if_neg (by omega)]
  have hl := loopR_of s.bits l St.zero s Ey.zero [] [] ⟨rfl, rfl, rfl, rfl, rfl, rfl⟩ St.zero_ok hx h (by rw [List.append_nil]; exact hb')
  have hl' : loopR ((unpack (pack s.bits)).take s.bits.length) s.n 0 Ey.zero [] = (l, 0) := by
    rw [unpack_pack_take, hn']; exact hl
  unfold bodyR
  rw [hl']
  simp only
  rw [if_neg (by omega), h]
  simp only
  rw [if_neg (fun hh => by rcases hh with hh | hh; exact hh rfl; exact hh rfl)]

/-- the errors of an eye -/
theorem eyeBit_e (L : List Bool) (p e : Nat) (h : e = 0 ∨ e = 2) : (eyeBit L p e).2.2 = 0 ∨ (eyeBit L p e).2.2 = 2 := by
  unfold eyeBit; split
  · exact h
  · split <;> simp
theorem eyeBits_e (L : List Bool) (p e : Nat) (n : Int) (h : e = 0 ∨ e = 2) : (eyeBits L p e n).2.2 = 0 ∨ (eyeBits L p e n).2.2 = 2 := by
  unfold eyeBits; split
  · exact h
  · split <;> simp
theorem eyeUnary_e (L : List Bool) (p e : Nat) (n : Int) (h : e = 0 ∨ e = 2) : (eyeUnary L p e n).2.2 = 0 ∨ (eyeUnary L p e n).2.2 = 2 := by
  unfold eyeUnary; split
  · exact h
  · split
    · simp
    · split <;> simp
theorem eyeBits_lt (L : List Bool) (p e : Nat) (n : Int) : (eyeBits L p e n).1 < 2 ^ clip n := by
  have h0 : 0 < 2 ^ clip n := Nat.two_pow_pos _
  unfold eyeBits; split
  · exact h0
  · split
    · exact h0
    · next h1 h2 => exact num_lt _ _ (by rw [List.length_take, List.length_drop]; omega)
/-- what holds of an eye -/
structure Ey.Ok (y : Ey) : Prop where
  e : y.e = 0 ∨ y.e = 2
  v : y.v < 18446744073709551616
  lead : y.lead < 64
  wide : y.wide ≤ 64
theorem timeR_ok (L : List Bool) {y : Ey} (h : y.Ok) : (timeR L y).2.Ok :=
  ⟨eyeBits_e _ _ _ _ (eyeUnary_e _ _ _ _ h.e), h.v, h.lead, h.wide⟩
theorem shl_lt {a lead wide : Nat} (h : a < 2 ^ wide) (hw : lead + wide ≤ 64) : a * 2 ^ (64 - lead - wide) < 18446744073709551616 := by
  have h1 : a * 2 ^ (64 - lead - wide) < 2 ^ wide * 2 ^ (64 - lead - wide) := Nat.mul_lt_mul_of_pos_right h (Nat.two_pow_pos _)
  rw [← Nat.pow_add] at h1
  have h2 : 2 ^ (wide + (64 - lead - wide)) ≤ 2 ^ 64 := Nat.pow_le_pow_right (by omega) (by omega)
  omega
theorem inR_ok (L : List Bool) {y : Ey} (h : y.Ok) : (inR L y).2.2.Ok ∧ (inR L y).1 < 18446744073709551616 ∧ ((inR L y).2.1 = 0 ∨ (inR L y).2.1 = 3) := by
  unfold inR
  split
  · exact ⟨h, by show 0 < _; omega, .inr rfl⟩
  · next hw =>
    refine ⟨⟨eyeBits_e _ _ _ _ h.e, h.v, h.lead, h.wide⟩, ?_, .inl rfl⟩
    have := eyeBits_lt L y.p y.e (y.wide : Nat)
    rw [clip_nat _ h.wide] at this
    exact xor_lt h.v (shl_lt this (by omega))
theorem valR_ok (L : List Bool) {y : Ey} (h : y.Ok) : (valR L y).2.2.Ok ∧ (valR L y).1 < 18446744073709551616 ∧ ((valR L y).2.1 = 0 ∨ (valR L y).2.1 = 3) := by
  unfold valR
  split
  · exact ⟨⟨eyeBit_e _ _ _ h.e, h.v, h.lead, h.wide⟩, h.v, .inl rfl⟩
  · split
    · refine inR_ok L ⟨eyeBits_e _ _ _ _ (eyeBits_e _ _ _ _ (eyeBit_e _ _ _ (eyeBit_e _ _ _ h.e))), h.v, ?_, ?_⟩
      · exact eyeBits_lt L _ _ 6
      · have := eyeBits_lt L (eyeBits L (eyeBit L (eyeBit L y.p y.e).2.1 (eyeBit L y.p y.e).2.2).2.1 (eyeBit L (eyeBit L y.p y.e).2.1 (eyeBit L y.p y.e).2.2).2.2 6).2.1 (eyeBits L (eyeBit L (eyeBit L y.p y.e).2.1 (eyeBit L y.p y.e).2.2).2.1 (eyeBit L (eyeBit L y.p y.e).2.1 (eyeBit L y.p y.e).2.2).2.2 6).2.2 6
        rw [show (2 : Nat) ^ clip 6 = 64 from rfl] at this
        exact this
    · exact inR_ok L ⟨eyeBit_e _ _ _ (eyeBit_e _ _ _ h.e), h.v, h.lead, h.wide⟩
theorem nextR_ok (L : List Bool) {y : Ey} (h : y.Ok) (f : Bool) : (nextR L y f).2.2.Ok ∧ (nextR L y f).1.2 < 18446744073709551616 ∧ ((nextR L y f).2.1 = 0 ∨ (nextR L y f).2.1 = 2 ∨ (nextR L y f).2.1 = 3) := by
  unfold nextR
  split
  · have h1 := eyeBits_e L (eyeBits L y.p y.e 41).2.1 (eyeBits L y.p y.e 41).2.2 64 (eyeBits_e L y.p y.e 41 h.e)
    exact ⟨⟨h1, h.v, h.lead, h.wide⟩, eyeBits_lt L _ _ 64, h1.elim .inl (fun h => .inr (.inl h))⟩
  · obtain ⟨h1, h2, h3⟩ := valR_ok L (timeR_ok L h)
    unfold restR
    split
    · next he => exact ⟨h1, by show 0 < _; omega, .inr (.inl (h1.e.resolve_left he))⟩
    · refine ⟨h1, h2, ?_⟩
      split
      · exact .inr (.inr rfl)
      · exact h3.elim .inl (fun h => .inr (.inr h))
theorem loopR_ok (L : List Bool) : ∀ (k i : Nat) (y : Ey) (acc : List Sm), y.Ok → (∀ x ∈ acc, x.2 < 18446744073709551616) → (∀ x ∈ (loopR L k i y acc).1, x.2 < 18446744073709551616) ∧ ((loopR L k i y acc).2 = 0 ∨ (loopR L k i y acc).2 = 2 ∨ (loopR L k i y acc).2 = 3) ∧
    ((loopR L k i y acc).2 = 0 → (loopR L k i y acc).1.length = acc.length + k)
  | 0, _, _, acc, _, ha => ⟨ha, .inl rfl, fun _ => rfl⟩
  | k + 1, i, y, acc, hy, ha => by
    obtain ⟨h1, h2, h3⟩ := nextR_ok L hy (i == 0)
    rw [loopR]
    split
    · next he => exact ⟨by simp, h3, fun h => absurd h he⟩
    · split
      · exact ⟨by simp, .inr (.inr rfl), fun h => absurd h (by decide)⟩
      · obtain ⟨g1, g2, g3⟩ := loopR_ok L k (i + 1) { (nextR L y (i == 0)).2.2 with t := (nextR L y (i == 0)).1.1, v := (nextR L y (i == 0)).1.2 } (acc ++ [(nextR L y (i == 0)).1]) ⟨h1.e, h2, h1.lead, h1.wide⟩ (by
          intro x hx
          rw [List.mem_append, List.mem_singleton] at hx
          rcases hx with hx | rfl
          · exact ha x hx
          · exact h2)
        refine ⟨g1, g2, fun h => ?_⟩
        rw [g3 h, List.length_append]
        simp; omega
theorem Ey.zero_ok : Ey.zero.Ok := ⟨.inl rfl, by decide, by decide, by decide⟩
theorem bodyR_prop (w : List UInt8) (n : Nat) (rest : List UInt8) (m : Nat) :
    ((bodyR w n rest m).2 = 0 ∧ (ofS St.zero (bodyR w n rest m).1).2 = 0 ∧ text (ofS St.zero (bodyR w n rest m).1).1 = w ∧ ∀ x ∈ (bodyR w n rest m).1, x.2 < 18446744073709551616) ∨ ((bodyR w n rest m).1 = [] ∧ ((bodyR w n rest m).2 = 2 ∨ (bodyR w n rest m).2 = 3)) := by
  obtain ⟨h1, h2, h3⟩ := loopR_ok ((unpack rest).take m) n 0 Ey.zero [] Ey.zero_ok (by simp)
  unfold bodyR
  split
  · next he => exact .inr ⟨rfl, by rcases h2 with h | h | h; exact absurd h he; exact .inl h; exact .inr h⟩
  · split
    · exact .inr ⟨rfl, .inr rfl⟩
    · next hh => exact .inl ⟨rfl, by simp only [ne_eq, not_or, Decidable.not_not] at hh; exact hh.1, by simp only [ne_eq, not_or, Decidable.not_not] at hh; exact hh.2, h1⟩
theorem takeMost_e (l : List UInt8) (most : Int) : (takeMost l most).2.2 = 0 ∨ (takeMost l most).2.2 = 2 ∨ (takeMost l most).2.2 = 3 ∨ (takeMost l most).2.2 = 16 := by
  obtain ⟨_, _, h3⟩ := takeU_prop l
  unfold takeMost
  split
  · exact .inr (.inr (.inr rfl))
  · omega
theorem samplesR_prop (w : List UInt8) :
    ((samplesR w).2 = 0 ∧ (ofS St.zero (samplesR w).1).2 = 0 ∧ text (ofS St.zero (samplesR w).1).1 = w ∧ ∀ x ∈ (samplesR w).1, x.2 < 18446744073709551616) ∨ ((samplesR w).1 = [] ∧ ((samplesR w).2 = 2 ∨ (samplesR w).2 = 3 ∨ (samplesR w).2 = 16)) := by
  have h1 := takeMost_e w 120
  have h2 := takeMost_e (takeMost w 120).2.1 1048576
  unfold samplesR
  split
  · next he => exact .inr ⟨rfl, by omega⟩
  · split
    · next he => exact .inr ⟨rfl, by omega⟩
    · split
      · exact .inr ⟨rfl, .inr (.inl rfl)⟩
      · rcases bodyR_prop w (takeMost w 120).1 (takeMost (takeMost w 120).2.1 1048576).2.1 (takeMost (takeMost w 120).2.1 1048576).1 with h | ⟨h, h' | h'⟩
        · exact .inl h
        · exact .inr ⟨h, .inl h'⟩
        · exact .inr ⟨h, .inr (.inl h')⟩

end Go.Bar.Xor

/-
  Plain mathematics of layer 8 (names of blocks): no program in sight; no condition.
-/
namespace Go.Bar.Idt
open Go.RowKit Go.Bar

def signs : List UInt8 := [48, 49, 50, 51, 52, 53, 54, 55, 56, 57, 97, 98, 99, 100, 101, 102, 103, 104, 106, 107, 109, 110, 112, 113, 114, 115, 116, 118, 119, 120, 121, 122]
theorem signs_length : signs.length = 32 := rfl
def sgn (k : Nat) : UInt8 := signs.getD k 0
/-- which digit a byte is; -1: none -/
def ix (c : UInt8) : Int := Lib.indexByte signs c
theorem ix_sgn (k : Nat) (h : k < 32) : ix (sgn k) = k := by
  have : ∀ k : Fin 32, ix (sgn k.val) = (k.val : Int) := by decide +kernel
  exact this ⟨k, h⟩
theorem index_of : ∀ (l : List UInt8) (c : UInt8), Lib.indexByte l c = -1 ∧ c ∉ l ∨ ∃ k : Nat, Lib.indexByte l c = k ∧ l[k]? = some c
  | [], c => .inl ⟨rfl, by simp⟩
  | b :: l, c => by
    unfold Lib.indexByte
    by_cases h : b = c
    · subst h
      rw [if_pos (by simp)]
      exact .inr ⟨0, rfl, rfl⟩
    · rw [if_neg (by simpa using h)]
      rcases index_of l c with ⟨h1, h2⟩ | ⟨k, h1, h2⟩
      · rw [h1]
        exact .inl ⟨rfl, by simp [h2]; exact fun e => h e.symm⟩
      · rw [h1, if_neg (by simp)]
        exact .inr ⟨k + 1, by omega, by simpa using h2⟩
theorem ix_of (c : UInt8) : ix c = -1 ∧ c ∉ signs ∨ ∃ k : Nat, ix c = k ∧ k < 32 ∧ sgn k = c := by
  rcases index_of signs c with h | ⟨k, h1, h2⟩
  · exact .inl h
  · obtain ⟨h3, h4⟩ := List.getElem?_eq_some_iff.1 h2
    refine .inr ⟨k, h1, h3, ?_⟩
    unfold sgn
    rw [List.getD_eq_getElem?_getD, h2]
    rfl
theorem sgn_slash (k : Nat) (h : k < 32) : sgn k ≠ 47 := by
  have : ∀ k : Fin 32, sgn k.val ≠ 47 := by decide +kernel
  exact this ⟨k, h⟩

/-- the lowest m digits of a number, the highest first -/
def dg : Nat → Nat → List UInt8
  | 0, _ => []
  | m + 1, n => dg m (n / 32) ++ [sgn (n % 32)]
theorem dg_length : ∀ m n, (dg m n).length = m
  | 0, _ => rfl
  | m + 1, n => by rw [dg, List.length_append, dg_length m]; rfl
theorem dg_cons : ∀ (m n : Nat), dg (m + 1) n = sgn (n / 32 ^ m % 32) :: dg m n
  | 0, n => by simp [dg]
  | m + 1, n => by
    rw [dg, dg_cons m (n / 32), dg, Nat.div_div_eq_div_mul, Nat.pow_succ, Nat.mul_comm (32 ^ m) 32]
    rfl
theorem dg_mem : ∀ (m n : Nat) (c : UInt8), c ∈ dg m n → ∃ k, k < 32 ∧ c = sgn k
  | 0, _, _, h => by simp [dg] at h
  | m + 1, n, c, h => by
    rw [dg, List.mem_append] at h
    rcases h with h | h
    · exact dg_mem m _ c h
    · simp at h; exact ⟨_, Nat.mod_lt _ (by omega), h⟩

theorem dg_more : ∀ (m k n : Nat), dg m (k * 32 ^ m + n) = dg m n
  | 0, _, _ => rfl
  | m + 1, k, n => by
    rw [dg, dg]
    have e1 : (k * 32 ^ (m + 1) + n) / 32 = k * 32 ^ m + n / 32 := by
      rw [Nat.pow_succ, ← Nat.mul_assoc]; omega
    have e2 : (k * 32 ^ (m + 1) + n) % 32 = n % 32 := by
      rw [Nat.pow_succ, ← Nat.mul_assoc]; omega
    rw [e1, e2, dg_more m]

/-- the number of digits; none: they are none -/
def num : Nat → List UInt8 → Option Nat
  | acc, [] => some acc
  | acc, c :: r => if ix c < 0 then none else num (32 * acc + (ix c).toNat) r
theorem num_append : ∀ (l r : List UInt8) (acc v : Nat), num acc l = some v → num acc (l ++ r) = num v r
  | [], r, acc, v, h => by simp [num] at h; subst h; rfl
  | c :: l, r, acc, v, h => by
    rw [num] at h
    by_cases hc : ix c < 0
    · rw [if_pos hc] at h; cases h
    · rw [if_neg hc] at h
      rw [List.cons_append, num, if_neg hc]
      exact num_append l r _ v h
theorem num_dg : ∀ (m n acc : Nat), n < 32 ^ m → num acc (dg m n) = some (acc * 32 ^ m + n)
  | 0, n, acc, h => by simp at h; subst h; simp [dg, num]
  | m + 1, n, acc, h => by
    have h1 := num_dg m (n / 32) acc (by rw [Nat.pow_succ] at h; omega)
    rw [dg, num_append _ _ _ _ h1, num, ix_sgn _ (Nat.mod_lt _ (by omega)), if_neg (by omega), num]
    congr 1
    rw [Nat.pow_succ, ← Nat.mul_assoc, Int.toNat_natCast]
    omega
theorem num_one : ∀ (l : List UInt8) (acc v : Nat), num acc l = some v → ∃ n, n < 32 ^ l.length ∧ v = acc * 32 ^ l.length + n ∧ l = dg l.length n
  | [], acc, v, h => by simp [num] at h; exact ⟨0, by simp, by simp [h], rfl⟩
  | c :: l, acc, v, h => by
    rw [num] at h
    by_cases hc : ix c < 0
    · rw [if_pos hc] at h; cases h
    · rw [if_neg hc] at h
      obtain ⟨n, h1, h2, h3⟩ := num_one l _ v h
      rcases ix_of c with ⟨g, _⟩ | ⟨k, g1, g2, g3⟩
      · omega
      · rw [g1, Int.toNat_natCast] at h2
        have hp : 0 < 32 ^ l.length := Nat.pow_pos (by omega)
        refine ⟨k * 32 ^ l.length + n, ?_, ?_, ?_⟩
        · rw [List.length_cons, Nat.pow_succ]
          have := Nat.mul_le_mul_right (32 ^ l.length) (show k + 1 ≤ 32 by omega)
          rw [Nat.add_mul] at this
          omega
        · rw [h2, List.length_cons, Nat.pow_succ, Nat.add_mul]
          have : 32 * acc * 32 ^ l.length = acc * (32 ^ l.length * 32) := by
            rw [Nat.mul_comm 32 acc, Nat.mul_assoc, Nat.mul_comm 32]
          omega
        · rw [List.length_cons, dg_cons]
          have e1 : (k * 32 ^ l.length + n) / 32 ^ l.length = k := by
            rw [Nat.mul_comm, Nat.mul_add_div hp, Nat.div_eq_of_lt h1, Nat.add_zero]
          rw [e1, Nat.mod_eq_of_lt g2, g3]
          congr 1
          rw [dg_more, ← h3]
theorem num_lt (l : List UInt8) (v : Nat) (h : num 0 l = some v) : v < 32 ^ l.length := by
  obtain ⟨n, h1, h2, _⟩ := num_one l 0 v h
  omega
theorem num_inj (l : List UInt8) (v : Nat) (h : num 0 l = some v) : l = dg l.length v := by
  obtain ⟨n, h1, h2, h3⟩ := num_one l 0 v h
  rw [show v = n by omega]
  exact h3

/-- names -/
def mk (t s : Nat) : List UInt8 := dg 8 t ++ dg 8 s
theorem mk_length (t s : Nat) : (mk t s).length = 16 := by rw [mk, List.length_append, dg_length, dg_length]
def parse (l : List UInt8) : Option (Nat × Nat) :=
  if l.length ≠ 16 then none else match num 0 (l.take 8), num 0 (l.drop 8) with
    | some a, some b => some (a, b)
    | _, _ => none
theorem parse_mk (t s : Nat) (ht : t < 32 ^ 8) (hs : s < 32 ^ 8) : parse (mk t s) = some (t, s) := by
  unfold parse
  rw [if_neg (by rw [mk_length]; simp)]
  have h1 : (mk t s).take 8 = dg 8 t := by rw [mk, List.take_append_of_le_length (by rw [dg_length]; omega), List.take_of_length_le (by rw [dg_length]; omega)]
  have h2 : (mk t s).drop 8 = dg 8 s := by rw [mk, List.drop_append_of_le_length (by rw [dg_length]; omega), List.drop_of_length_le (by rw [dg_length]; omega), List.nil_append]
  rw [h1, h2, num_dg 8 t 0 ht, num_dg 8 s 0 hs]
  simp
theorem parse_one (l : List UInt8) (t s : Nat) (h : parse l = some (t, s)) : l = mk t s ∧ t < 32 ^ 8 ∧ s < 32 ^ 8 := by
  unfold parse at h
  by_cases hl : l.length ≠ 16
  · rw [if_pos hl] at h; cases h
  · rw [if_neg hl] at h
    have hl : l.length = 16 := by omega
    have e1 : (l.take 8).length = 8 := by rw [List.length_take]; omega
    have e2 : (l.drop 8).length = 8 := by rw [List.length_drop]; omega
    rcases h1 : num 0 (l.take 8) with _ | a
    · rw [h1] at h; cases h
    · rcases h2 : num 0 (l.drop 8) with _ | b
      · rw [h1, h2] at h; cases h
      · rw [h1, h2] at h
        simp at h
        obtain ⟨rfl, rfl⟩ := h
        have g1 := num_inj _ _ h1
        have g2 := num_inj _ _ h2
        have g3 := num_lt _ _ h1
        have g4 := num_lt _ _ h2
        rw [e1] at g1 g3
        rw [e2] at g2 g4
        exact ⟨by rw [mk, ← g1, ← g2, List.take_append_drop], g3, g4⟩
theorem parse_slash (l : List UInt8) (h : (parse l).isSome = true) : (47 : UInt8) ∉ l ∧ l.length = 16 := by
  obtain ⟨⟨t, s⟩, hp⟩ := Option.isSome_iff_exists.1 h
  obtain ⟨rfl, _, _⟩ := parse_one l t s hp
  refine ⟨fun hm => ?_, mk_length t s⟩
  rw [mk, List.mem_append] at hm
  rcases hm with hm | hm <;> (obtain ⟨k, hk, he⟩ := dg_mem _ _ _ hm; exact sgn_slash k hk he.symm)

/-- parts of a block -/
def parts : List (List UInt8) := [[99, 104, 117, 110, 107, 115], [105, 110, 100, 101, 120], [109, 101, 116, 97], [109, 97, 114, 107]]
/-- the block and the part of an object's name -/
def split (l : List UInt8) : Option (List UInt8 × List UInt8) :=
  if 17 ≤ l.length ∧ l[16]? = some 47 ∧ (parse (l.take 16)).isSome = true ∧ l.drop 17 ∈ parts then some (l.take 16, l.drop 17) else none

end Go.Bar.Idt
