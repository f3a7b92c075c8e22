/-
  Layer 6: the walks of label's functions that look at pairs (goodName, Check, Get, Key).
-/
import Derived.Test.YtpjicajifdandaaDoorLabM
import Derived.Test.YtpjicajifdandaaDoorLebA
import Derived.Test.YtpjicajifdandaaDoorLib4
import Derived.Test.YtpjicajifdandaaDoorLib9
import Derived.BigRegion
namespace Go.Proofs.YtpjicajifdandaaDoor
open Go.RowKit Go.Bar Go.Bar.Leb Go.Bar.Lab

/-- pairs as cells -/
def pcs (l : List Pr) : List Value := l.flatMap fun p => [.string (bs p.1), .string (bs p.2)]
theorem pcs_append (l m : List Pr) : pcs (l ++ m) = pcs l ++ pcs m := List.flatMap_append
theorem pcs_snoc (l : List Pr) (p : Pr) : pcs (l ++ [p]) = pcs l ++ [.string (bs p.1), .string (bs p.2)] := by simp [pcs]
theorem pcs_length (l : List Pr) : (pcs l).length = l.length * 2 := flat2_length _ _ l
theorem pcs_one (l : List Pr) : ∀ u ∈ pcs l, u.oneCell' = true := by
  intro u hu
  unfold pcs at hu
  rw [List.mem_flatMap] at hu
  obtain ⟨p, _, hp⟩ := hu
  simp only [List.mem_cons, List.not_mem_nil, or_false] at hp
  rcases hp with rfl | rfl <;> rfl
/-- a slice of pairs -/
def PsAt (w : World) (v : Value) (l : List Pr) : Prop := SlAt w 2 v l.length (pcs l)
section
variable {w w' : World} {v : Value} {l : List Pr}
theorem PsAt.below (h : PsAt w v l) (hb : Below w.heap.size w w') : PsAt w' v l := SlAt.below h hb
theorem PsAt.shape (h : PsAt w v l) : ∃ A c, v = .slice A l.length c ∧ l.length ≤ c ∧ c ≤ maxLen := SlAt.shape h
theorem PsAt.at_ {A : Option Addr} {n c i : Nat} {p : Pr} (h : PsAt w (.slice A n c) l) (hi : l[i]? = some p) : ∃ b o, A = some ⟨b, o, none⟩ ∧ b < w.heap.size ∧ w.cell? ⟨b, o + i * 2, none⟩ = some (.string (bs p.1)) ∧ w.cell? ⟨b, o + i * 2 + 1, none⟩ = some (.string (bs p.2)) := by
  have hlt : i < l.length := (List.getElem?_eq_some_iff.1 hi).1
  obtain ⟨A', c', he, _⟩ := h.shape
  injection he with h1 h2 h3
  subst h1; subst h2; subst h3
  obtain ⟨b, o, rfl, hb, hc⟩ := SlAt.cells h (by omega)
  obtain ⟨g1, g2⟩ := flat2 (fun p : Pr => .string (bs p.1)) (fun p : Pr => .string (bs p.2)) l i p hi
  exact ⟨b, o, rfl, hb, hc _ _ g1, hc _ _ g2⟩
end
theorem below_alloc1 (w : World) (o : Obj) : Below w.heap.size w (w.alloc o) := (Below.refl _ _).alloc (Nat.le_refl _) o

/-- where a byte lies -/
theorem byte_rng (c : UInt8) : (c.toNat : Int) < 48 ∨ (48 ≤ (c.toNat : Int) ∧ (c.toNat : Int) ≤ 57) ∨ (57 < (c.toNat : Int) ∧ (c.toNat : Int) < 65) ∨ (65 ≤ (c.toNat : Int) ∧ (c.toNat : Int) ≤ 90) ∨ (90 < (c.toNat : Int) ∧ (c.toNat : Int) < 97 ∧ (c.toNat : Int) ≠ 95) ∨ (c.toNat : Int) = 95 ∨
    (97 ≤ (c.toNat : Int) ∧ (c.toNat : Int) ≤ 122) ∨ 122 < (c.toNat : Int) := by omega
theorem letter_nat (c : UInt8) : letter c = decide (97 ≤ (c.toNat : Int) ∧ (c.toNat : Int) ≤ 122 ∨ 65 ≤ (c.toNat : Int) ∧ (c.toNat : Int) ≤ 90 ∨ (c.toNat : Int) = 95) := by
  unfold letter
  rw [decide_eq_decide, UInt8.le_iff_toNat_le, UInt8.le_iff_toNat_le, UInt8.le_iff_toNat_le, UInt8.le_iff_toNat_le, ← UInt8.toNat_inj]
  simp
  omega
theorem digit_nat (c : UInt8) : digit c = decide (48 ≤ (c.toNat : Int) ∧ (c.toNat : Int) ≤ 57) := by
  unfold digit
  rw [decide_eq_decide, UInt8.le_iff_toNat_le, UInt8.le_iff_toNat_le]
  simp
  omega
theorem sign_letter {c : UInt8} (h : 97 ≤ (c.toNat : Int) ∧ (c.toNat : Int) ≤ 122 ∨ 65 ≤ (c.toNat : Int) ∧ (c.toNat : Int) ≤ 90 ∨ (c.toNat : Int) = 95) (f : Bool) : signB f c = true := by
  unfold signB; rw [letter_nat, decide_eq_true h, Bool.true_or]
theorem sign_digit {c : UInt8} (h : 48 ≤ (c.toNat : Int) ∧ (c.toNat : Int) ≤ 57) (f : Bool) : signB f c = !f := by
  unfold signB
  rw [letter_nat, digit_nat, decide_eq_false (by omega), decide_eq_true h, Bool.false_or, Bool.and_true]
theorem sign_other {c : UInt8} (h : ¬ (97 ≤ (c.toNat : Int) ∧ (c.toNat : Int) ≤ 122 ∨ 65 ≤ (c.toNat : Int) ∧ (c.toNat : Int) ≤ 90 ∨ (c.toNat : Int) = 95)) (h2 : ¬ (48 ≤ (c.toNat : Int) ∧ (c.toNat : Int) ≤ 57)) (f : Bool) : signB f c = false := by
  unfold signB
  rw [letter_nat, digit_nat, decide_eq_false h, decide_eq_false h2, Bool.and_false]; rfl

/-- all signs up to the k-th may stand there -/
def signs (l : List UInt8) (k : Nat) : Prop := ∀ j c, j < k → l[j]? = some c → signB (j == 0) c = true
theorem signs_zero (l : List UInt8) : signs l 0 := fun j _ h => absurd h (Nat.not_lt_zero j)
theorem signs_succ {l : List UInt8} {k : Nat} {c : UInt8} (h : signs l k) (hc : l[k]? = some c) (hs : signB (k == 0) c = true) : signs l (k + 1) := by
  intro j d hj hd
  by_cases hjk : j < k
  · exact h j d hjk hd
  · obtain rfl : j = k := by omega
    rw [hc] at hd
    injection hd with hd
    subst hd
    exact hs
theorem sign_weak {c : UInt8} {b : Bool} (h : signB b c = true) : signB false c = true := by
  unfold signB at *
  rcases hl : letter c with _ | _
  · rw [hl] at h
    simp at h ⊢
    exact h.2
  · rfl
theorem nameB_signs {l : List UInt8} (h : signs l l.length) : nameB l = (!l.isEmpty && decide (l.length ≤ 40)) := by
  unfold nameB
  cases l with
  | nil => rfl
  | cons c r =>
    have h0 : signB true c = true := h 0 c (by simp) rfl
    have ha : (c :: r).all (signB false) = true := by
      rw [List.all_eq_true]
      intro x hx
      obtain ⟨i, hi, he⟩ := List.mem_iff_getElem.1 hx
      exact sign_weak (h i x hi (by rw [List.getElem?_eq_getElem hi, he]))
    rw [ha]
    simp [h0]
theorem nameB_bad {l : List UInt8} {k : Nat} {c : UInt8} (hc : l[k]? = some c) (hs : signB (k == 0) c = false) : nameB l = false := by
  unfold nameB
  cases l with
  | nil => rfl
  | cons d r =>
    match k with
    | 0 =>
      simp at hc
      subst hc
      have hs : signB true d = false := hs
      simp [hs]
    | k + 1 =>
      have : (d :: r).all (signB false) = false := by
        rw [Bool.eq_false_iff]
        intro h
        rw [List.all_eq_true] at h
        have := h c (List.mem_of_getElem? hc)
        rw [show signB ((k + 1) == 0) c = signB false c from rfl, this] at hs
        cases hs
      rw [this]
      simp

set_option maxHeartbeats 4000000 in
set_option maxRecDepth 10000 in
theorem goodName_any (l : List UInt8) (w : World) (hl : l.length ≤ 1000000000000) :
    Calls Tryd.prog 37 #[.string (bs l)] w (RetBelow w (.bool (nameB l))) := by
  obtain ⟨Z, hZ⟩ : ∃ Z, Z = nameB l := ⟨_, rfl⟩
  rw [← hZ]
  have HZ := Lib.hid hZ
  clear hZ
  go_enter Tryd.func37, Tryd.ntmps37
  go_wp2_with (refine wpList_bytes rfl (.tmp 6) 63 9 rfl bytes_ty Tryd.underlying9 _ rfl (by rw [bs_size]; unfold maxLen; omega) ?_; intro v w1 hb hbl _; obtain ⟨A, c, rfl, hlc⟩ := Buf.shape hb; dsimp only)
  rw [bs_data] at *
  go_loop [9] (fun i => ∃ k : Nat, k ≤ l.length ∧ i = .int .i64 k ∧ Hid (signs l k)) (fun i => l.length - (intOf i).toNat)
  case atStart => exact ⟨0, Nat.zero_le _, rfl, Lib.hid (signs_zero l)⟩
  case round =>
    obtain ⟨k, hk, rfl, hsg⟩ := hrel
    by_cases hgo : k < l.length
    · obtain ⟨c, hc⟩ : ∃ c, l[k]? = some c := ⟨_, List.getElem?_eq_getElem hgo⟩
      obtain ⟨b, o, rfl, hbb, hcc⟩ := Buf.cell hb (by omega)
      have hcell : w1.cell? ⟨b, o + k, none⟩ = some (.int .u8 (c.toNat : Int)) := by
        rw [hcc k (by omega)]; simp [bcs, hc]
      have HC := Lib.hid hc
      have HB := Lib.hid hb
      have h0 : k = 0 ∨ 0 < k := by omega
      have hrng := byte_rng c
      clear hc hb hcc
      rcases hrng with h1 | ⟨h1, h2⟩ | ⟨h1, h2⟩ | ⟨h1, h2⟩ | ⟨h1, h2, h3⟩ | h1 | ⟨h1, h2⟩ | h1
      case inr.inl =>
        have hs := sign_digit ⟨h1, h2⟩
        have HS := Lib.hid hs
        clear hs
        have hne : ((c.toNat : Int) == 95) = false := by rw [beq_eq_false_iff_ne]; omega
        rcases h0 with h0 | h0
        · have hk0 : ((k : Int) == 0) = true := by rw [beq_iff_eq]; omega
          have hk1 : (k == 0) = true := by rw [beq_iff_eq]; omega
          have HK1 := Lib.hid hk1
          clear hk1 h0
          go_wp2_with fail
          go_ret
          exact ⟨by rw [HZ.out, nameB_bad HC.out (by rw [HS.out, HK1.out]; rfl)]; rfl, hbl⟩
        · have hk0 : ((k : Int) == 0) = false := by rw [beq_eq_false_iff_ne]; omega
          go_wp2_with fail
          go_round
          case rel => exact ⟨k + 1, by omega, by go_num, Lib.hid (signs_succ hsg.out HC.out (by rw [HS.out, show (k == 0) = false from by rw [beq_eq_false_iff_ne]; omega]; rfl))⟩
          case measure => simp [intOf]; omega
      case inr.inr.inr.inr.inr.inl =>
        have hs := sign_letter (.inr (.inr h1))
        have HS := Lib.hid hs
        have hne : ((c.toNat : Int) == 95) = true := by rw [beq_iff_eq]; omega
        clear hs h1
        have h1 : (c.toNat : Int) ≤ 95 ∧ 95 ≤ (c.toNat : Int) := by rw [beq_iff_eq] at hne; omega
        obtain ⟨h1, h2⟩ := h1
        go_wp2_with fail
        go_round
        case rel => exact ⟨k + 1, by omega, by go_num, Lib.hid (signs_succ hsg.out HC.out (HS.out _))⟩
        case measure => simp [intOf]; omega
      case inr.inr.inr.inl =>
        have hs := sign_letter (.inr (.inl ⟨h1, h2⟩))
        have HS := Lib.hid hs
        clear hs
        go_wp2_with fail
        go_round
        case rel => exact ⟨k + 1, by omega, by go_num, Lib.hid (signs_succ hsg.out HC.out (HS.out _))⟩
        case measure => simp [intOf]; omega
      case inr.inr.inr.inr.inr.inr.inl =>
        have hs := sign_letter (.inl ⟨h1, h2⟩)
        have HS := Lib.hid hs
        clear hs
        go_wp2_with fail
        go_round
        case rel => exact ⟨k + 1, by omega, by go_num, Lib.hid (signs_succ hsg.out HC.out (HS.out _))⟩
        case measure => simp [intOf]; omega
      all_goals
        have hs : ∀ f, signB f c = false := sign_other (by omega) (by omega)
        have HS := Lib.hid hs
        clear hs
        have hne : ((c.toNat : Int) == 95) = false := by rw [beq_eq_false_iff_ne]; omega
        first | (have hx : (c.toNat : Int) < 48 := (by omega)) | ((have hx : 57 < (c.toNat : Int) := (by omega)); (have hy : 48 ≤ (c.toNat : Int) := (by omega)))
        try (have hx3 : 65 ≤ (c.toNat : Int) := (by omega))
        try (have hx4 : decide ((c.toNat : Int) ≤ 90) = false := decide_eq_false (by omega))
        try (have hx5 : decide ((c.toNat : Int) ≤ 122) = false := decide_eq_false (by omega))
        rcases h0 with h0 | h0
        · have hk0 : ((k : Int) == 0) = true := by rw [beq_iff_eq]; omega
          clear h0
          go_wp2_with fail
          go_ret
          exact ⟨by rw [HZ.out, nameB_bad HC.out (HS.out _)]; rfl, hbl⟩
        · have hk0 : ((k : Int) == 0) = false := by rw [beq_eq_false_iff_ne]; omega
          go_wp2_with fail
          go_ret
          exact ⟨by rw [HZ.out, nameB_bad HC.out (HS.out _)]; rfl, hbl⟩
    · obtain rfl : k = l.length := by omega
      have hz := HZ.out
      rw [nameB_signs hsg.out] at hz
      have HZ2 := Lib.hid hz
      clear hz
      have h0 : l = [] ∨ 0 < l.length := by cases l <;> simp
      rcases h0 with rfl | h0
      · go_wp2_with fail
        go_ret
        exact ⟨by rw [HZ2.out]; rfl, hbl⟩
      · have hne : (l != []) = true := by rw [bne_iff_ne]; intro h; rw [h] at h0; exact absurd h0 (by simp)
        have he : l.isEmpty = false := by cases l; exact absurd h0 (by simp); rfl
        by_cases h40 : l.length ≤ 40
        · go_wp2_with fail
          go_ret
          exact ⟨by rw [HZ2.out, he, decide_eq_true h40, decide_eq_true (by omega)]; rfl, hbl⟩
        · go_wp2_with fail
          go_ret
          exact ⟨by rw [HZ2.out, he, decide_eq_false h40, decide_eq_false (by omega)]; rfl, hbl⟩

set_option maxHeartbeats 4000000 in
set_option maxRecDepth 10000 in
theorem pget_any (v : Value) (l : List Pr) (x : List UInt8) (w : World) (h : PsAt w v l) :
    Calls Tryd.prog 19 #[v, .string (bs x)] w (RetBelow w (.string (bs (Lab.get l x)))) := by
  obtain ⟨A, c, rfl, hlc, hcm⟩ := h.shape
  unfold maxLen at hcm
  obtain ⟨Z, hZ⟩ : ∃ Z, Z = Lab.get l x := ⟨_, rfl⟩
  rw [← hZ]
  have HZ := Lib.hid hZ
  clear hZ
  go_enter Tryd.func19, Tryd.ntmps19
  go_wp2_with fail
  go_loopw [9] (fun i wr => ∃ k : Nat, k ≤ l.length ∧ i = .int .i64 k ∧ Below w.heap.size w wr ∧ Hid (∀ p ∈ l.take k, (p.1 == x) = false)) (fun i _ => l.length - (intOf i).toNat)
  case atStart => exact ⟨0, Nat.zero_le _, rfl, Below.refl _ _, Lib.hid (by simp)⟩
  case round =>
    obtain ⟨k, hk, rfl, hb, hx⟩ := hrel
    by_cases hgo : k < l.length
    · obtain ⟨p, hp⟩ : ∃ p, l[k]? = some p := ⟨_, List.getElem?_eq_getElem hgo⟩
      obtain ⟨b, o, rfl, hbb, h1, h2⟩ := (h.below hb).at_ hp
      have HP := Lib.hid hp
      clear hp
      by_cases he : (p.1 == x) = true
      · have hz : Z = p.2 := by
          rw [HZ.out]
          unfold Lab.get
          have : l.find? (fun p => p.1 == x) = some p := by
            obtain ⟨hl, hq⟩ := List.getElem?_eq_some_iff.1 HP.out
            have hsplit : l = l.take k ++ p :: l.drop (k + 1) := by
              rw [← hq, List.getElem_cons_drop, List.take_append_drop]
            rw [hsplit, List.find?_append, List.find?_eq_none.2 (fun q hq => by rw [hx.out q hq]; simp)]
            simp [he]
          rw [this]
        have HZ2 := Lib.hid hz
        clear hz
        go_wp2_with fail
        go_ret
        exact ⟨by rw [HZ2.out]; rfl, below_trans hb (below_alloc1 _ _)⟩
      · have he : (p.1 == x) = false := by simpa using he
        go_wp2_with fail
        go_roundw
        case rel =>
          refine ⟨k + 1, by omega, by go_num, below_trans hb (below_alloc1 _ _), Lib.hid (fun q hq => ?_)⟩
          rw [List.take_add_one, HP.out, List.mem_append] at hq
          rcases hq with hq | hq
          · exact hx.out q hq
          · simp at hq
            subst hq
            exact he
        case measure => simp [intOf]; omega
    · have hz : Z = [] := by
        rw [HZ.out]
        unfold Lab.get
        have h0 := hx.out
        rw [List.take_of_length_le (by omega)] at h0
        rw [List.find?_eq_none.2 (fun q hq => by rw [h0 q hq]; simp)]
      have HZ2 := Lib.hid hz
      clear hz
      go_wp2_with fail
      go_ret
      exact ⟨by rw [HZ2.out]; rfl, hb⟩

end Go.Proofs.YtpjicajifdandaaDoor
