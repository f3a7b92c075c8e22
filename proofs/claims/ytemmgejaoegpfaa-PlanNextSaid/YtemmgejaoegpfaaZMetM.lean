/-
  Plain mathematics of layer 9 (metas and marks): no program in sight; no condition.
-/
import Derived.Test.YtemmgejaoegpfaaZIdtM
import Derived.Test.YtemmgejaoegpfaaZFrmM

namespace Go.Bar.Met
open Go.RowKit Go.Bar Go.Bar.Leb Go.Bar.Frm Go.Bar.Idt

/-- a text behind its length -/
def txt (l : List UInt8) : List UInt8 := u l.length ++ l
/-- a number as uint64 -/
def w64 (z : Int) : Nat := (z % 18446744073709551616).toNat
theorem w64_lt (z : Int) : w64 z < 18446744073709551616 := by unfold w64; omega
theorem w64_of (z : Int) (h : 0 ≤ z) (h2 : z < 18446744073709551616) : (w64 z : Int) = z := by unfold w64; omega
theorem w64_nat (n : Nat) (h2 : n < 18446744073709551616) : w64 (n : Int) = n := by unfold w64; omega
/-- a file: its name, size, sum -/
structure Fl where
  name : List UInt8
  size : Int
  sum : Nat
/-- a meta -/
structure Mt where
  id : List UInt8
  mn : Int
  mx : Int
  lv : Int
  sr : Int
  sm : Int
  fs : List Fl
  ss : List (List UInt8)
def flB (f : Fl) : List UInt8 := txt f.name ++ (u (w64 f.size) ++ u f.sum)
def fields (m : Mt) : List UInt8 := txt m.id ++ (u (w64 m.mn) ++ (u (w64 m.mx) ++ (u (w64 m.lv) ++ (u (w64 m.sr) ++ (u (w64 m.sm) ++ (m.fs.flatMap flB ++ (u m.ss.length ++ m.ss.flatMap txt)))))))
def encode (m : Mt) : List UInt8 := rec (1, fields m)
def markF (id : List UInt8) (at_ : Int) : List UInt8 := txt id ++ u (w64 (max at_ 0))
def markB (id : List UInt8) (at_ : Int) : List UInt8 := rec (2, markF id at_)

/-- a taker: what is left, and an error -/
def tText (most : Int) (s : List UInt8) (e : Nat) : List UInt8 × List UInt8 × Nat := if e ≠ 0 then ([], s, e) else takeText s most
def tNum (most : Int) (s : List UInt8) (e : Nat) : Nat × List UInt8 × Nat := if e ≠ 0 then (0, s, e) else takeMost s most
/-- a text that is one record of a kind -/
def only (s : List UInt8) (k : UInt8) : List UInt8 × Nat := ((next s).1.2, if (next s).2.2 = 0 ∧ ((next s).2.1 ≠ [] ∨ (next s).1.1 ≠ k) then 3 else (next s).2.2)
def idOk (l : List UInt8) : Bool := (parse l).isSome
def decodeMark (s : List UInt8) : List UInt8 × Nat × Nat :=
  match tText 16 (only s 2).1 (only s 2).2 with
  | (id, s, e) => match tNum 1099511627776 s e with
    | (n, s, e) => if e ≠ 0 then ([], 0, e) else if s ≠ [] ∨ idOk id = false then ([], 0, 3) else (id, n, 0)
def tFile (s : List UInt8) (e : Nat) : Fl × List UInt8 × Nat :=
  match tText 40 s e with
  | (name, s, e) => match tNum 1048576 s e with
    | (size, s, e) => match tNum 4294967295 s e with
      | (sum, s, e) => (⟨name, size, sum⟩, s, e)
def tSrc : Nat → List UInt8 → Nat → List (List UInt8) × List UInt8 × Nat
  | 0, s, e => ([], s, e)
  | n + 1, s, e => if e ≠ 0 then ([], s, e) else ((tText 16 s e).1 :: (tSrc n (tText 16 s e).2.1 (tText 16 s e).2.2).1, (tSrc n (tText 16 s e).2.1 (tText 16 s e).2.2).2)
def tFls : Nat → List UInt8 → Nat → List Fl × List UInt8 × Nat
  | 0, s, e => ([], s, e)
  | n + 1, s, e => ((tFile s e).1 :: (tFls n (tFile s e).2.1 (tFile s e).2.2).1, (tFls n (tFile s e).2.1 (tFile s e).2.2).2)
def tFields (s : List UInt8) (e : Nat) : Mt × List UInt8 × Nat :=
  match tText 16 s e with
  | (id, s, e) => match tNum 1099511627776 s e with
    | (mn, s, e) => match tNum 1099511627776 s e with
      | (mx, s, e) => match tNum 9 s e with
        | (lv, s, e) => match tNum 1073741824 s e with
          | (sr, s, e) => match tNum 1073741824 s e with
            | (sm, s, e) => match tFile s e with
              | (f1, s, e) => match tFile s e with
                | (f2, s, e) => match tNum 50 s e with
                  | (n, s, e) => match tSrc n s e with
                    | (ss, s, e) => (⟨id, mn, mx, lv, sr, sm, [f1, f2], ss⟩, s, e)

/-- the source before the i-th -/
def prev (ss : List (List UInt8)) (i : Nat) : List UInt8 := if i = 0 then [] else ss.getD (i - 1) []
/-- a source that may stand at a place -/
def good (m : Mt) (i : Nat) : Prop := idOk (m.ss.getD i []) = true ∧ m.ss.getD i [] ≠ m.id ∧ Op.bytesLess (prev m.ss i) (m.ss.getD i []) = true
def chunksN : List UInt8 := [99, 104, 117, 110, 107, 115]
def indexN : List UInt8 := [105, 110, 100, 101, 120]
def fileOk (m : Mt) (i : Nat) : Prop := (m.fs.getD i ⟨[], 0, 0⟩).name = (if i = 0 then chunksN else indexN) ∧ 0 ≤ (m.fs.getD i ⟨[], 0, 0⟩).size ∧ (m.fs.getD i ⟨[], 0, 0⟩).size ≤ 1048576
def sane (m : Mt) : Prop := idOk m.id = true ∧ 0 ≤ m.mn ∧ m.mn < m.mx ∧ m.mx ≤ 1099511627776 ∧ 1 ≤ m.lv ∧ m.lv ≤ 9 ∧ 0 ≤ m.sr ∧ m.sr ≤ m.sm ∧ m.sm ≤ 1073741824
/-- may a meta be said? -/
def Ok (m : Mt) : Prop := sane m ∧ m.fs.length = 2 ∧ m.ss.length ≤ 50 ∧ (∀ i, i < 2 → fileOk m i) ∧ ∀ i, i < m.ss.length → good m i
open Classical in
noncomputable def chk (m : Mt) : Int := if Ok m then 0 else 3
open Classical in
noncomputable def chkB (m : Mt) : Bool := if Ok m then true else false
theorem chk_ok {m : Mt} (h : Ok m) : chk m = 0 := by unfold chk; rw [if_pos h]
theorem chk_no {m : Mt} (h : ¬ Ok m) : chk m = 3 := by unfold chk; rw [if_neg h]
theorem chkB_ok {m : Mt} (h : Ok m) : chkB m = true := by unfold chkB; rw [if_pos h]
theorem chkB_no {m : Mt} (h : ¬ Ok m) : chkB m = false := by unfold chkB; rw [if_neg h]

theorem takeText_one {s l r : List UInt8} {most : Int} (h : takeText s most = (l, r, 0)) : s = txt l ++ r ∧ (0 ≤ most → (l.length : Int) ≤ most) := by
  unfold takeText at h
  split at h
  · rename_i h1; simp only [Prod.mk.injEq] at h; exact absurd h.2.2 h1
  · rename_i h1
    have h1 : (takeMost s most).2.2 = 0 := by omega
    split at h
    · simp at h
    · rename_i h2
      simp only [Prod.mk.injEq] at h
      obtain ⟨e1, e2, _⟩ := h
      have ho := takeMost_one s most h1
      have hlen : l.length = (takeMost s most).1 := by rw [← e1, List.length_take]; omega
      refine ⟨?_, fun h0 => ?_⟩
      · unfold txt
        rw [hlen, ← e1, ← e2, List.append_assoc, List.take_append_drop, ho]
      · have := takeMost_le s most.toNat (by rw [Int.toNat_of_nonneg h0]; exact h1)
        rw [Int.toNat_of_nonneg h0] at this
        omega
theorem tText_txt (l r : List UInt8) (most : Int) (h : l.length < 18446744073709551616) (hm : (l.length : Int) ≤ most) : tText most (txt l ++ r) 0 = (l, r, 0) := by
  unfold tText txt
  rw [if_neg (by simp), takeText_text l r most h hm]
theorem tNum_u (n : Nat) (r : List UInt8) (most : Int) (h : n < 18446744073709551616) (hm : (n : Int) ≤ most) : tNum most (u n ++ r) 0 = (n, r, 0) := by
  unfold tNum
  rw [if_neg (by simp), takeMost_u n r most h hm]
theorem tText_one {s l r : List UInt8} {most : Int} {e : Nat} (h : tText most s e = (l, r, 0)) (h0 : 0 ≤ most) : e = 0 ∧ s = txt l ++ r ∧ (l.length : Int) ≤ most := by
  unfold tText at h
  by_cases he : e ≠ 0
  · rw [if_pos he] at h
    simp only [Prod.mk.injEq] at h
    exact absurd h.2.2 he
  · rw [if_neg he] at h
    obtain ⟨h1, h2⟩ := takeText_one h
    exact ⟨by omega, h1, h2 h0⟩
theorem tNum_one {s r : List UInt8} {n : Nat} {most : Nat} {e : Nat} (h : tNum (most : Int) s e = (n, r, 0)) : e = 0 ∧ s = u n ++ r ∧ n ≤ most := by
  unfold tNum at h
  by_cases he : e ≠ 0
  · rw [if_pos he] at h
    simp only [Prod.mk.injEq] at h
    exact absurd h.2.2 he
  · rw [if_neg he] at h
    have h1 := takeMost_one s most (by rw [h])
    have h2 := takeMost_le s most (by rw [h])
    rw [h] at h1 h2
    exact ⟨by omega, h1.symm, h2⟩
theorem tText_err (most : Int) (s : List UInt8) (e : Nat) (h : e ≠ 0) : tText most s e = ([], s, e) := by unfold tText; rw [if_pos h]
theorem tNum_err (most : Int) (s : List UInt8) (e : Nat) (h : e ≠ 0) : tNum most s e = (0, s, e) := by unfold tNum; rw [if_pos h]

theorem tFile_flB (f : Fl) (r : List UInt8) (h1 : f.name.length ≤ 40) (h2 : 0 ≤ f.size) (h3 : f.size ≤ 1048576) (h4 : f.sum ≤ 4294967295) : tFile (flB f ++ r) 0 = (f, r, 0) := by
  obtain ⟨nm, sz, sm⟩ := f
  simp only at h1 h2 h3 h4
  obtain ⟨n, rfl⟩ := Int.eq_ofNat_of_zero_le h2
  unfold tFile flB
  simp only [List.append_assoc]
  rw [tText_txt nm _ 40 (by omega) (by omega)]
  simp only [w64_nat n (by omega)]
  rw [tNum_u n _ 1048576 (by omega) (by omega)]
  simp only
  rw [tNum_u sm _ 4294967295 (by omega) (by omega)]
theorem tFile_one {s r : List UInt8} {f : Fl} {e : Nat} (h : tFile s e = (f, r, 0)) : e = 0 ∧ s = flB f ++ r ∧ f.name.length ≤ 40 ∧ 0 ≤ f.size ∧ f.size ≤ 1048576 ∧ f.sum ≤ 4294967295 := by
  unfold tFile at h
  obtain ⟨nm, s1, e1, h1⟩ : ∃ a b c, tText 40 s e = (a, b, c) := ⟨_, _, _, rfl⟩
  rw [h1] at h
  simp only at h
  obtain ⟨sz, s2, e2, h2⟩ : ∃ a b c, tNum 1048576 s1 e1 = (a, b, c) := ⟨_, _, _, rfl⟩
  rw [h2] at h
  simp only at h
  obtain ⟨sm, s3, e3, h3⟩ : ∃ a b c, tNum 4294967295 s2 e2 = (a, b, c) := ⟨_, _, _, rfl⟩
  rw [h3] at h
  simp only [Prod.mk.injEq] at h
  obtain ⟨rfl, rfl, rfl⟩ := h
  obtain ⟨rfl, rfl, g3⟩ := tNum_one (most := 4294967295) h3
  obtain ⟨rfl, rfl, g2⟩ := tNum_one (most := 1048576) h2
  obtain ⟨rfl, rfl, g1⟩ := tText_one h1 (by omega)
  refine ⟨rfl, ?_, by simp only; omega, by simp only; omega, by simp only; omega, g3⟩
  unfold flB
  simp only [w64_nat sz (by omega), List.append_assoc]
theorem tSrc_txt : ∀ (ss : List (List UInt8)) (r : List UInt8), (∀ s ∈ ss, s.length ≤ 16) → tSrc ss.length (ss.flatMap txt ++ r) 0 = (ss, r, 0)
  | [], r, _ => rfl
  | s :: ss, r, h => by
    have h1 := tText_txt s (ss.flatMap txt ++ r) 16 (by have := h s (by simp); omega) (by have := h s (by simp); omega)
    rw [List.length_cons, tSrc, if_neg (by simp), List.flatMap_cons, List.append_assoc, h1]
    simp only
    rw [tSrc_txt ss r (fun s hs => h s (by simp [hs]))]
theorem tSrc_one : ∀ (n : Nat) (s r : List UInt8) (ss : List (List UInt8)) (e : Nat), tSrc n s e = (ss, r, 0) → e = 0 ∧ s = ss.flatMap txt ++ r ∧ ss.length = n ∧ ∀ s ∈ ss, s.length ≤ 16
  | 0, s, r, ss, e, h => by
    simp only [tSrc, Prod.mk.injEq] at h
    obtain ⟨rfl, rfl, rfl⟩ := h
    simp
  | n + 1, s, r, ss, e, h => by
    rw [tSrc] at h
    by_cases he : e ≠ 0
    · rw [if_pos he] at h
      simp only [Prod.mk.injEq] at h
      exact absurd h.2.2 he
    · rw [if_neg he] at h
      obtain ⟨a, s1, e1, h1⟩ : ∃ a b c, tText 16 s e = (a, b, c) := ⟨_, _, _, rfl⟩
      rw [h1] at h
      simp only at h
      obtain ⟨ss', s2, e2, h2⟩ : ∃ a b c, tSrc n s1 e1 = (a, b, c) := ⟨_, _, _, rfl⟩
      rw [h2] at h
      simp only [Prod.mk.injEq] at h
      obtain ⟨rfl, rfl, rfl⟩ := h
      obtain ⟨rfl, rfl, g3, g4⟩ := tSrc_one n _ _ _ _ h2
      obtain ⟨rfl, rfl, g1⟩ := tText_one h1 (by omega)
      refine ⟨rfl, by rw [List.flatMap_cons, List.append_assoc], by simp [g3], fun s hs => ?_⟩
      rcases List.mem_cons.1 hs with rfl | hs
      · omega
      · exact g4 s hs

theorem tNum_le (most : Nat) (s : List UInt8) (e : Nat) (hm : most ≤ 9223372036854775807) : (tNum (most : Int) s e).1 ≤ most := by
  unfold tNum
  split
  · exact Nat.zero_le _
  · obtain ⟨_, _, h | ⟨_, h, _⟩⟩ := takeMost_prop s most (by omega)
    · exact takeMost_le s most h
    · rw [h]; exact Nat.zero_le _
theorem tSrc_err (n : Nat) (s : List UInt8) (e : Nat) (h : e ≠ 0) : tSrc n s e = ([], s, e) := by
  cases n
  · rfl
  · rw [tSrc, if_pos h]

theorem idOk_len {l : List UInt8} (h : idOk l = true) : l.length = 16 := (parse_slash l h).2
theorem idOk_mk (t s : Nat) (ht : t < 32 ^ 8) (hs : s < 32 ^ 8) : idOk (mk t s) = true := by unfold idOk; rw [parse_mk t s ht hs]; rfl

theorem Ok.files {m : Mt} (h : Ok m) : ∃ a b : Int, ∃ p q : Nat, m.fs = [⟨chunksN, a, p⟩, ⟨indexN, b, q⟩] ∧ 0 ≤ a ∧ a ≤ 1048576 ∧ 0 ≤ b ∧ b ≤ 1048576 := by
  obtain ⟨_, h2, _, hf, _⟩ := h
  match hm : m.fs, h2 with
  | [⟨n1, a, p⟩, ⟨n2, b, q⟩], _ =>
    have f0 := hf 0 (by omega)
    have f1 := hf 1 (by omega)
    simp only [fileOk, hm, List.getD_cons_zero, List.getD_cons_succ, if_true, if_false, Nat.one_ne_zero] at f0 f1
    obtain ⟨rfl, a1, a2⟩ := f0
    obtain ⟨rfl, b1, b2⟩ := f1
    exact ⟨a, b, p, q, rfl, a1, a2, b1, b2⟩
theorem Ok.src {m : Mt} (h : Ok m) : ∀ s ∈ m.ss, s.length ≤ 16 := by
  intro s hs
  obtain ⟨i, hi⟩ := List.mem_iff_getElem?.1 hs
  have hl := (List.getElem?_eq_some_iff.1 hi).1
  have := (h.2.2.2.2 i hl).1
  rw [List.getD_eq_getElem?_getD, hi] at this
  exact Nat.le_of_eq (idOk_len this)

/-- what is written is taken again -/
theorem tFields_fields (m : Mt) (r : List UInt8) (h : Ok m) (hs : ∀ f ∈ m.fs, f.sum ≤ 4294967295) : tFields (fields m ++ r) 0 = (m, r, 0) := by
  obtain ⟨a, b, p, q, hf, ha1, ha2, hb1, hb2⟩ := h.files
  have hsrc := h.src
  obtain ⟨⟨h1, h2, h3, h4, h5, h6, h7, h8, h9⟩, _, h10, _, _⟩ := h
  obtain ⟨id, mn, mx, lv, sr, sm, fs, ss⟩ := m
  simp only at *
  subst hf
  have hil := idOk_len h1
  obtain ⟨mn, rfl⟩ := Int.eq_ofNat_of_zero_le h2
  obtain ⟨mx, rfl⟩ := Int.eq_ofNat_of_zero_le (show 0 ≤ mx by omega)
  obtain ⟨lv, rfl⟩ := Int.eq_ofNat_of_zero_le (show 0 ≤ lv by omega)
  obtain ⟨sr, rfl⟩ := Int.eq_ofNat_of_zero_le h7
  obtain ⟨sm, rfl⟩ := Int.eq_ofNat_of_zero_le (show 0 ≤ sm by omega)
  have hp := hs ⟨chunksN, a, p⟩ (by simp)
  have hq := hs ⟨indexN, b, q⟩ (by simp)
  simp only at hp hq
  unfold fields tFields
  simp only [List.append_assoc, List.flatMap_cons, List.flatMap_nil, List.nil_append, w64_nat mn (by omega), w64_nat mx (by omega), w64_nat lv (by omega), w64_nat sr (by omega), w64_nat sm (by omega)]
  rw [tText_txt id _ 16 (by omega) (by omega)]
  simp only
  rw [tNum_u mn _ _ (by omega) (by omega)]
  simp only
  rw [tNum_u mx _ _ (by omega) (by omega)]
  simp only
  rw [tNum_u lv _ _ (by omega) (by omega)]
  simp only
  rw [tNum_u sr _ _ (by omega) (by omega)]
  simp only
  rw [tNum_u sm _ _ (by omega) (by omega)]
  simp only
  rw [tFile_flB ⟨chunksN, a, p⟩ _ (show chunksN.length ≤ 40 by decide) ha1 ha2 hp]
  simp only
  rw [tFile_flB ⟨indexN, b, q⟩ _ (show indexN.length ≤ 40 by decide) hb1 hb2 hq]
  simp only
  rw [tNum_u ss.length _ 50 (by omega) (by omega)]
  simp only
  rw [tSrc_txt ss r hsrc]
/-- what is taken is its bytes -/
theorem tFields_one {s r : List UInt8} {m : Mt} {e : Nat} (h : tFields s e = (m, r, 0)) : e = 0 ∧ s = fields m ++ r ∧ ∀ f ∈ m.fs, f.sum < 4294967296 := by
  unfold tFields at h
  obtain ⟨id, s1, e1, h1⟩ : ∃ a b c, tText 16 s e = (a, b, c) := ⟨_, _, _, rfl⟩
  rw [h1] at h
  simp only at h
  obtain ⟨mn, s2, e2, h2⟩ : ∃ a b c, tNum 1099511627776 s1 e1 = (a, b, c) := ⟨_, _, _, rfl⟩
  rw [h2] at h
  simp only at h
  obtain ⟨mx, s3, e3, h3⟩ : ∃ a b c, tNum 1099511627776 s2 e2 = (a, b, c) := ⟨_, _, _, rfl⟩
  rw [h3] at h
  simp only at h
  obtain ⟨lv, s4, e4, h4⟩ : ∃ a b c, tNum 9 s3 e3 = (a, b, c) := ⟨_, _, _, rfl⟩
  rw [h4] at h
  simp only at h
  obtain ⟨sr, s5, e5, h5⟩ : ∃ a b c, tNum 1073741824 s4 e4 = (a, b, c) := ⟨_, _, _, rfl⟩
  rw [h5] at h
  simp only at h
  obtain ⟨sm, s6, e6, h6⟩ : ∃ a b c, tNum 1073741824 s5 e5 = (a, b, c) := ⟨_, _, _, rfl⟩
  rw [h6] at h
  simp only at h
  obtain ⟨f1, s7, e7, h7⟩ : ∃ a b c, tFile s6 e6 = (a, b, c) := ⟨_, _, _, rfl⟩
  rw [h7] at h
  simp only at h
  obtain ⟨f2, s8, e8, h8⟩ : ∃ a b c, tFile s7 e7 = (a, b, c) := ⟨_, _, _, rfl⟩
  rw [h8] at h
  simp only at h
  obtain ⟨n, s9, e9, h9⟩ : ∃ a b c, tNum 50 s8 e8 = (a, b, c) := ⟨_, _, _, rfl⟩
  rw [h9] at h
  simp only at h
  obtain ⟨ss, s10, e10, h10⟩ : ∃ a b c, tSrc n s9 e9 = (a, b, c) := ⟨_, _, _, rfl⟩
  rw [h10] at h
  simp only [Prod.mk.injEq] at h
  obtain ⟨rfl, rfl, rfl⟩ := h
  obtain ⟨rfl, rfl, g10, _⟩ := tSrc_one _ _ _ _ _ h10
  obtain ⟨rfl, rfl, g9⟩ := tNum_one (most := 50) h9
  obtain ⟨rfl, rfl, _, _, _, k8⟩ := tFile_one h8
  obtain ⟨rfl, rfl, _, _, _, k7⟩ := tFile_one h7
  obtain ⟨rfl, rfl, g6⟩ := tNum_one (most := 1073741824) h6
  obtain ⟨rfl, rfl, g5⟩ := tNum_one (most := 1073741824) h5
  obtain ⟨rfl, rfl, g4⟩ := tNum_one (most := 9) h4
  obtain ⟨rfl, rfl, g3⟩ := tNum_one (most := 1099511627776) h3
  obtain ⟨rfl, rfl, g2⟩ := tNum_one (most := 1099511627776) h2
  obtain ⟨rfl, rfl, _⟩ := tText_one h1 (by omega)
  refine ⟨rfl, ?_, fun f hf => ?_⟩
  rotate_left 1
  · simp only [List.mem_cons, List.not_mem_nil, or_false] at hf
    rcases hf with rfl | rfl <;> omega
  unfold fields
  simp only [List.append_assoc, List.flatMap_cons, List.flatMap_nil, List.nil_append, w64_nat mn (by omega), w64_nat mx (by omega), w64_nat lv (by omega), w64_nat sr (by omega), w64_nat sm (by omega), g10]

/-- a record with one byte that is another one is none -/
theorem rec_byte {a b : Rc} {p s : List UInt8} {x y : UInt8} (h1 : rec a = p ++ x :: s) (h2 : rec b = p ++ y :: s) : x = y := by
  have hl : (rec a).length = (rec b).length := by rw [h1, h2]; simp
  rw [rec_len, rec_len] at hl
  have hab : a.2.length = b.2.length := by
    rcases Nat.lt_trichotomy a.2.length b.2.length with h | h | h
    · have := u_mono b.2.length a.2.length (by omega); omega
    · exact h
    · have := u_mono a.2.length b.2.length (by omega); omega
  obtain ⟨ka, da⟩ := a
  obtain ⟨kb, db⟩ := b
  simp only at hab
  by_cases hxy : x = y
  · exact hxy
  · exfalso
    unfold rec at h1 h2
    simp only [hab, List.append_assoc, List.cons_append] at h1 h2
    obtain ⟨U, hU⟩ : ∃ U, U = u db.length := ⟨_, rfl⟩
    rw [← hU] at h1 h2
    rcases p with _ | ⟨c, p⟩
    · simp only [List.nil_append, List.cons.injEq] at h1 h2
      obtain ⟨rfl, g1⟩ := h1
      obtain ⟨rfl, g2⟩ := h2
      have g := g1.trans g2.symm
      obtain ⟨g3, g4⟩ := List.append_inj (List.append_cancel_left g) (by rw [sum4_len, sum4_len])
      subst g4
      have g5 := congrArg num4 g3
      have g6 := num4_sum4 (rsum (ka, da)) (sum_lt _) []
      have g7 := num4_sum4 (rsum (kb, da)) (sum_lt _) []
      rw [List.append_nil] at g6 g7
      rw [g6, g7] at g5
      exact sum_byte [] da ka kb hxy (by simpa [rsum] using g5)
    · simp only [List.cons_append, List.cons.injEq] at h1 h2
      obtain ⟨rfl, g1⟩ := h1
      obtain ⟨rfl, g2⟩ := h2
      by_cases hp1 : p.length < U.length
      · have e1 : (U ++ (sum4 (rsum (kb, da)) ++ da))[p.length]? = some x := by rw [g1]; simp
        have e2 : (U ++ (sum4 (rsum (kb, db)) ++ db))[p.length]? = some y := by rw [g2]; simp
        rw [List.getElem?_append_left hp1] at e1 e2
        rw [e1] at e2
        exact hxy (Option.some.inj e2)
      · have hdrop : ∀ (z : UInt8), (p ++ z :: s).drop U.length = p.drop U.length ++ z :: s := fun z => by
          rw [List.drop_append_of_le_length (by omega)]
        have k1 : sum4 (rsum (kb, da)) ++ da = p.drop U.length ++ x :: s := by
          have := congrArg (List.drop U.length) g1
          rw [List.drop_left, hdrop] at this; exact this
        have k2 : sum4 (rsum (kb, db)) ++ db = p.drop U.length ++ y :: s := by
          have := congrArg (List.drop U.length) g2
          rw [List.drop_left, hdrop] at this; exact this
        obtain ⟨q, hq⟩ : ∃ q, q = p.drop U.length := ⟨_, rfl⟩
        rw [← hq] at k1 k2
        by_cases hq4 : q.length < 4
        · have d1 : da = (q ++ x :: s).drop 4 := by
            rw [← k1, List.drop_left' (by rw [sum4_len])]
          have d2 : db = (q ++ y :: s).drop 4 := by
            rw [← k2, List.drop_left' (by rw [sum4_len])]
          have hdd : da = db := by
            rw [d1, d2, List.drop_append, List.drop_append]
            congr 1
            rw [show 4 - q.length = (3 - q.length) + 1 by omega, List.drop_succ_cons, List.drop_succ_cons]
          subst hdd
          have := k1.symm.trans k2
          have := List.append_cancel_left this
          simp at this
          exact hxy this
        · have t1 : sum4 (rsum (kb, da)) = q.take 4 := by
            have := congrArg (List.take 4) k1
            rw [List.take_left' (by rw [sum4_len]), List.take_append_of_le_length (by omega)] at this
            exact this
          have t2 : sum4 (rsum (kb, db)) = q.take 4 := by
            have := congrArg (List.take 4) k2
            rw [List.take_left' (by rw [sum4_len]), List.take_append_of_le_length (by omega)] at this
            exact this
          have d1 : da = q.drop 4 ++ x :: s := by
            have := congrArg (List.drop 4) k1
            rw [List.drop_left' (by rw [sum4_len]), List.drop_append_of_le_length (by omega)] at this
            exact this
          have d2 : db = q.drop 4 ++ y :: s := by
            have := congrArg (List.drop 4) k2
            rw [List.drop_left' (by rw [sum4_len]), List.drop_append_of_le_length (by omega)] at this
            exact this
          have g5 := congrArg num4 (t1.trans t2.symm)
          have g6 := num4_sum4 (rsum (kb, da)) (sum_lt _) []
          have g7 := num4_sum4 (rsum (kb, db)) (sum_lt _) []
          rw [List.append_nil] at g6 g7
          rw [g6, g7] at g5
          unfold rsum at g5
          simp only at g5
          rw [d1, d2] at g5
          exact sum_byte (kb :: q.drop 4) s x y hxy (by simpa using g5)
/-- bytes that are one record's and others -/
theorem only_one {s d : List UInt8} {k : UInt8} (h : only s k = (d, 0)) : s = rec (k, d) ∧ d.length ≤ 1048576 := by
  unfold only at h
  simp only [Prod.mk.injEq] at h
  obtain ⟨h1, h2⟩ := h
  split at h2
  · cases h2
  · rename_i hn
    obtain ⟨g1, g2⟩ := next_one s h2
    have hr : (next s).2.1 = [] := by
      by_cases hh : (next s).2.1 = []
      · exact hh
      · exact absurd ⟨h2, .inl hh⟩ hn
    have hk : (next s).1.1 = k := by
      by_cases hh : (next s).1.1 = k
      · exact hh
      · exact absurd ⟨h2, .inr hh⟩ hn
    rw [hr, List.append_nil] at g1
    rw [h1] at g2
    refine ⟨?_, g2⟩
    rw [← g1, ← h1, ← hk]
theorem only_rec (k : UInt8) (d : List UInt8) (h : d.length ≤ 1048576) : only (rec (k, d)) k = (d, 0) := by
  have := next_rec (k, d) [] h
  rw [List.append_nil] at this
  unfold only
  rw [this]
  simp
theorem only_other (k k' : UInt8) (d : List UInt8) (h : d.length ≤ 1048576) (hk : k ≠ k') : (only (rec (k, d)) k').2 = 3 := by
  have := next_rec (k, d) [] h
  rw [List.append_nil] at this
  unfold only
  rw [this]
  simp [hk]
theorem only_bent {r : Rc} {p s : List UInt8} {x y : UInt8} (h : rec r = p ++ x :: s) (hxy : x ≠ y) (k : UInt8) : (only (p ++ y :: s) k).2 ≠ 0 := by
  intro he
  obtain ⟨h1, _⟩ := only_one (show only (p ++ y :: s) k = ((only (p ++ y :: s) k).1, 0) by rw [← he])
  exact hxy (rec_byte h h1.symm)
/-- a mark goes and comes back -/
theorem decodeMark_mark (id : List UInt8) (n : Nat) (h : idOk id = true) (hn : n ≤ 1099511627776) : decodeMark (markB id n) = (id, n, 0) := by
  have hil := idOk_len h
  have hl : (markF id n).length ≤ 1048576 := by
    unfold markF txt
    rw [List.length_append, List.length_append]
    have := u_len id.length (by omega)
    have := u_len (w64 (max (n : Int) 0)) (w64_lt _)
    omega
  unfold decodeMark markB
  rw [only_rec _ _ hl]
  simp only
  have hw : w64 (max (n : Int) 0) = n := by rw [show max (n : Int) 0 = n by omega, w64_nat n (by omega)]
  unfold markF
  rw [tText_txt id _ 16 (by omega) (by omega)]
  simp only
  have := tNum_u n [] 1099511627776 (by omega) (by omega)
  rw [List.append_nil] at this
  rw [hw, this]
  simp [h]
theorem decodeMark_one {s id : List UInt8} {n : Nat} (h : decodeMark s = (id, n, 0)) : s = markB id n := by
  unfold decodeMark at h
  obtain ⟨d, e0, h0⟩ : ∃ a b, only s 2 = (a, b) := ⟨_, _, rfl⟩
  rw [h0] at h
  simp only at h
  obtain ⟨a, s1, e1, h1⟩ : ∃ a b c, tText 16 d e0 = (a, b, c) := ⟨_, _, _, rfl⟩
  rw [h1] at h
  simp only at h
  obtain ⟨m, s2, e2, h2⟩ : ∃ a b c, tNum 1099511627776 s1 e1 = (a, b, c) := ⟨_, _, _, rfl⟩
  rw [h2] at h
  simp only at h
  by_cases he : e2 ≠ 0
  · rw [if_pos he] at h
    simp only [Prod.mk.injEq] at h
    exact absurd h.2.2 he
  · rw [if_neg he] at h
    obtain rfl : e2 = 0 := by omega
    split at h
    · simp at h
    · rename_i hc
      simp only [Prod.mk.injEq, and_true] at h
      obtain ⟨rfl, rfl⟩ := h
      obtain ⟨rfl, rfl, g2⟩ := tNum_one (most := 1099511627776) h2
      obtain ⟨rfl, rfl, _⟩ := tText_one h1 (by omega)
      obtain ⟨hs, _⟩ := only_one h0
      have hs2 : s2 = [] := by
        by_cases hh : s2 = []
        · exact hh
        · exact absurd (.inl hh) hc
      rw [hs, hs2]
      unfold markB markF
      rw [show max (m : Int) 0 = m by omega, w64_nat m (by omega), List.append_nil]

theorem decodeMark_le (s : List UInt8) : (decodeMark s).2.1 ≤ 1099511627776 := by
  unfold decodeMark
  obtain ⟨a, s1, e1, h1⟩ : ∃ a b c, tText 16 (only s 2).1 (only s 2).2 = (a, b, c) := ⟨_, _, _, rfl⟩
  rw [h1]
  simp only
  obtain ⟨m, s2, e2, h2⟩ : ∃ a b c, tNum 1099511627776 s1 e1 = (a, b, c) := ⟨_, _, _, rfl⟩
  rw [h2]
  simp only
  have := tNum_le 1099511627776 s1 e1 (by omega)
  rw [show ((1099511627776 : Nat) : Int) = 1099511627776 from rfl, h2] at this
  split
  · simp
  · split
    · simp
    · exact this

/-- a meta that is made -/
def made (m : Mt) (tick seq : Int) : Mt :=
  ⟨mk (1 + (tick % 1024).toNat) (seq % 1024).toNat, m.mn % 1048576, m.mn % 1048576 + 1 + m.mx % 65536, 1 + m.lv % 8, m.sr % 1024, m.sr % 1024 + m.sm % 1024,
    [⟨chunksN, 1, sum [99]⟩, ⟨indexN, (m.id.take 20).length, sum (m.id.take 20)⟩], (List.range (min m.ss.length 9)).map fun i => mk 0 i⟩
theorem made_src (m : Mt) (tick seq : Int) (i : Nat) (h : i < (made m tick seq).ss.length) : i < 9 ∧ (made m tick seq).ss.getD i [] = mk 0 i := by
  simp only [made, List.length_map, List.length_range] at h
  refine ⟨by omega, ?_⟩
  simp only [made]
  rw [List.getD_eq_getElem?_getD, List.getElem?_map, List.getElem?_range h]
  rfl
theorem made_ok (m : Mt) (tick seq : Int) : Ok (made m tick seq) := by
  have ht : 1 + (tick % 1024).toNat < 32 ^ 8 := by omega
  have hq : (seq % 1024).toNat < 32 ^ 8 := by omega
  refine ⟨⟨idOk_mk _ _ ht hq, ?_, ?_, ?_, ?_, ?_, ?_, ?_, ?_⟩, rfl, ?_, ?_, ?_⟩
  · simp only [made]; omega
  · simp only [made]; omega
  · simp only [made]; omega
  · simp only [made]; omega
  · simp only [made]; omega
  · simp only [made]; omega
  · simp only [made]; omega
  · simp only [made]; omega
  · simp only [made, List.length_map, List.length_range]; omega
  · intro i hi
    have hl : (m.id.take 20).length ≤ 20 := List.length_take_le _ _
    rcases (show i = 0 ∨ i = 1 by omega) with rfl | rfl
    · simp [fileOk, made]
    · simp only [fileOk, made, List.getD_cons_succ, List.getD_cons_zero]
      refine ⟨rfl, by omega, by omega⟩
  · intro i hi
    obtain ⟨h9, hg⟩ := made_src m tick seq i hi
    refine ⟨by rw [hg]; exact idOk_mk 0 i (by decide) (by omega), ?_, ?_⟩
    · rw [hg]
      intro he
      have := mk_inj 0 i (1 + (tick % 1024).toNat) (seq % 1024).toNat (by decide) (by omega) ht hq
      rw [show (mk 0 i == mk (1 + (tick % 1024).toNat) (seq % 1024).toNat) = true from by rw [beq_iff_eq]; exact he] at this
      simp at this
      omega
    · rw [hg]
      unfold prev
      by_cases h0 : i = 0
      · subst h0
        rw [if_pos rfl]
        have hl := mk_length 0 0
        cases hm : mk 0 0 with
        | nil => rw [hm] at hl; cases hl
        | cons a b => rfl
      · rw [if_neg h0]
        obtain ⟨_, hg2⟩ := made_src m tick seq (i - 1) (by omega)
        rw [hg2, less_mk 0 (i - 1) 0 i (by decide) (by omega) (by decide) (by omega)]
        simp; omega
theorem made_sum (m : Mt) (tick seq : Int) : ∀ f ∈ (made m tick seq).fs, f.sum < 4294967296 := by
  intro f hf
  simp only [made, List.mem_cons, List.not_mem_nil, or_false] at hf
  rcases hf with rfl | rfl <;> exact sum_lt _
theorem flB_len (f : Fl) (h : f.sum < 4294967296) (hn : f.name.length < 1000000) : (flB f).length ≤ f.name.length + 30 := by
  unfold flB txt
  have h1 := u_len f.name.length (by omega)
  have h2 := u_len (w64 f.size) (w64_lt _)
  have h3 := u_len f.sum (by omega)
  simp only [List.length_append]; omega
theorem txts_len : ∀ (ss : List (List UInt8)) (k : Nat), (∀ s ∈ ss, s.length ≤ k) → k < 1000000 → (ss.flatMap txt).length ≤ ss.length * (k + 10)
  | [], k, _, _ => by simp
  | s :: ss, k, h, hk => by
    have ih := txts_len ss k (fun s hs => h s (by simp [hs])) hk
    have h1 := h s (by simp)
    have h2 := u_len s.length (by omega)
    rw [List.flatMap_cons, List.length_append, List.length_cons, Nat.succ_mul]
    unfold txt at ih ⊢
    rw [List.length_append]
    omega
theorem flBs_len : ∀ (fs : List Fl) (k : Nat), (∀ f ∈ fs, f.name.length ≤ k ∧ f.sum < 4294967296) → k < 1000000 → (fs.flatMap flB).length ≤ fs.length * (k + 30)
  | [], k, _, _ => by simp
  | f :: fs, k, h, hk => by
    have ih := flBs_len fs k (fun f hf => h f (by simp [hf])) hk
    have h1 := h f (by simp)
    have h2 := flB_len f h1.2 (by omega)
    rw [List.flatMap_cons, List.length_append, List.length_cons, Nat.succ_mul]
    omega
/-- fields of short parts are short -/
theorem fields_len (m : Mt) (k : Nat) (hk : k < 1000000) (hi : m.id.length ≤ k) (hf : ∀ f ∈ m.fs, f.name.length ≤ k ∧ f.sum < 4294967296) (hs : ∀ s ∈ m.ss, s.length ≤ k) (hn : m.ss.length < 1000000) : (fields m).length ≤ k + 70 + m.fs.length * (k + 30) + m.ss.length * (k + 10) := by
  have h1 := flBs_len m.fs k hf hk
  have h2 := txts_len m.ss k hs hk
  have h3 := u_len m.id.length (by omega)
  have h4 := fun z => u_len (w64 z) (w64_lt z)
  have g1 := h4 m.mn
  have g2 := h4 m.mx
  have g3 := h4 m.lv
  have g4 := h4 m.sr
  have g5 := h4 m.sm
  have h5 := u_len m.ss.length (by omega)
  unfold fields
  rw [show txt m.id = u m.id.length ++ m.id from rfl]
  simp only [List.length_append]
  omega
theorem made_len (m : Mt) (tick seq : Int) : (fields (made m tick seq)).length ≤ 1000 := by
  have h := fields_len (made m tick seq) 16 (by omega) (by simp only [made]; rw [mk_length]; omega) (fun f hf => ⟨by
    simp only [made, List.mem_cons, List.not_mem_nil, or_false] at hf
    rcases hf with rfl | rfl <;> simp [chunksN, indexN], made_sum m tick seq f hf⟩) (fun s hs => (made_ok m tick seq).src s hs) (by simp only [made, List.length_map, List.length_range]; omega)
  have h1 : (made m tick seq).fs.length = 2 := rfl
  have h2 : (made m tick seq).ss.length ≤ 9 := by simp only [made, List.length_map, List.length_range]; omega
  rw [h1] at h
  omega

end Go.Bar.Met
