/-
  Layer 1: the walks of leb's functions: what each call returns; buffers by chains of appends.
-/
import Derived.Test.YtjklcojnbcemoaaGreatDoorZLebM
import Derived.BigQuiet
import Derived.Deep.QuietTactic
import Derived.Test.YtjklcojnbcemoaaGreatDoorZLabM
import Derived.Test.YtjklcojnbcemoaaGreatDoorZLib2
import Derived.Test.YtjklcojnbcemoaaGreatDoorZLib9
import Derived.BigRegion
import Derived.Test.YtjklcojnbcemoaaGreatDoorZLib5

namespace Go.Proofs.YtjklcojnbcemoaaGreatDoor
open Go.RowKit Go.Bar Go.Bar.Leb

theorem bytes_ty : ByteTy Tryz.prog 95 5 :=
  ⟨Tryz.underlying95, Tryz.underlying5, info_parts (show (Tryz.prog.info? 5).map (fun i => (i.zero, i.size, i.bytes)) = some (some (.int .u8 0), 1, 1) by kernel_rfl)⟩

set_option maxHeartbeats 400000 in
set_option maxRecDepth 10000 in
theorem uint_any (V : Value) (xs : List UInt8) (n : Nat) (W : World) (hn : n < 18446744073709551616) (hx : xs.length + 10 ≤ 140737488355328) (hb : BBuf W 5 V xs) :
    Calls Tryz.prog 37 #[V, .int .u64 n] W (RetB W V 5 xs (u n)) := by
  have hul := u_len n hn
  go_enter Tryz.func37, Tryz.ntmps37
  go_wp2
  go_loopw [0, 1] (fun b m wr => ∃ (k : Nat) (ys : List UInt8), k < 18446744073709551616 ∧ m = .int .u64 k ∧ BApp W V 5 xs wr b ys ∧ ys ++ u k = u n) (fun _ m _ => (intOf m).toNat)
  case atStart => exact ⟨n, [], hn, rfl, BApp.start' hb, rfl⟩
  case round =>
    obtain ⟨k, ys, hk, rfl, happ, hys⟩ := hrel
    have HY := Lib.hid hys
    have hyl : ys.length + (u k).length ≤ 10 := by rw [← List.length_append, hys]; exact hul
    have hup := u_pos k
    clear hys
    by_cases hlt : 127 < k
    · go_wp2_with (at_builtin; refine wpList_append_byte rfl (.tmp 9) (.tmp 13) 95 rfl bytes_ty _ (byte_hi k) rfl happ rfl (by omega) ?_; intro v' w' happ'; clear happ)
      go_roundw
      case rel => exact ⟨k / 128, _, by omega, by go_num, happ', by rw [← HY.out, u_ge (n := k) (by omega), List.append_assoc]; rfl⟩
      case measure => simp [intOf]; omega
    · go_wp2_with (at_builtin; refine wpList_append_byte rfl (.tmp 15) (.tmp 18) 95 rfl bytes_ty _ (byte_lo k (by omega)) rfl happ rfl (by omega) ?_; intro v' w' happ'; clear happ)
      go_ret
      exact ⟨v', rfl, by rw [← HY.out, u_lt (by omega)]; exact happ'⟩

set_option maxHeartbeats 400000 in
theorem text_any (V : Value) (xs : List UInt8) (s : ByteArray) (W : World) (hs : s.size ≤ maxLen) (hx : xs.length + 10 + s.size ≤ 140737488355328) (hb : BBuf W 5 V xs) :
    Calls Tryz.prog 38 #[V, .string s] W (RetB W V 5 xs (u s.size ++ s.data.toList)) := by
  unfold maxLen at hs
  have hul := u_len s.size (by omega)
  go_enter Tryz.func38, Tryz.ntmps38
  go_wp2_with fail
  refine (uint_any V xs s.size _ (by omega) (by omega) hb).mono ?_
  rintro e w' ⟨v', rfl, happ⟩
  go_wp2_with (at_builtin; refine wpList_append_str rfl (.tmp 9) (.tmp 10) 95 9 rfl bytes_ty Tryz.underlying9 s rfl happ rfl (by omega) ?_; intro v2 w2 happ2)
  go_ret
  exact ⟨v2, rfl, happ2⟩

/-- what the page fixes -/
theorem fix1 : takeU (bs [128, 0]).data.toList = (0, [], 3) := by
  rw [bs_data]; simp [takeU, tk]
theorem fix2 : takeU (bs [1, 120]).data.toList = (1, [120], 0) := by
  rw [bs_data]; simp [takeU, tk]
theorem fix3 : u 300 = [172, 2] := by rw [u_ge (by omega), u_lt (by omega)]; rfl
theorem fix4 : u 2 = [2] := by rw [u_lt (by omega)]; rfl

end Go.Proofs.YtjklcojnbcemoaaGreatDoor

/-
  Layer 6: the walks of label's functions that look at pairs (goodName, Check, Get, Key).
-/
namespace Go.Proofs.YtjklcojnbcemoaaGreatDoor
open Go.RowKit Go.Bar Go.Bar.Leb Go.Bar.Lab

/-- pairs as cells -/
def pcs (l : List Pr) : List Value := l.flatMap fun p => [.string (bs p.1), .string (bs p.2)]
theorem pcs_append (l m : List Pr) : pcs (l ++ m) = pcs l ++ pcs m := List.flatMap_append
theorem pcs_snoc (l : List Pr) (p : Pr) : pcs (l ++ [p]) = pcs l ++ [.string (bs p.1), .string (bs p.2)] := by simp [pcs]
theorem pcs_length (l : List Pr) : (pcs l).length = l.length * 2 := flat2_length _ _ l
theorem pcs_one (l : List Pr) : ∀ u ∈ pcs l, u.oneCell' = true := by
  intro u hu
  unfold pcs at hu
  rw [List.mem_flatMap] at hu
  obtain ⟨p, _, hp⟩ := hu
  simp only [List.mem_cons, List.not_mem_nil, or_false] at hp
  rcases hp with rfl | rfl <;> rfl
/-- a slice of pairs -/
def PsAt (w : World) (v : Value) (l : List Pr) : Prop := SlAt w 2 v l.length (pcs l)
section
variable {w w' : World} {v : Value} {l : List Pr}
theorem PsAt.below (h : PsAt w v l) (hb : Below w.heap.size w w') : PsAt w' v l := SlAt.below h hb
theorem PsAt.shape (h : PsAt w v l) : ∃ A c, v = .slice A l.length c ∧ l.length ≤ c ∧ c ≤ maxLen := SlAt.shape h
theorem PsAt.at_ {A : Option Addr} {n c i : Nat} {p : Pr} (h : PsAt w (.slice A n c) l) (hi : l[i]? = some p) : ∃ b o, A = some ⟨b, o, none⟩ ∧ b < w.heap.size ∧ w.cell? ⟨b, o + i * 2, none⟩ = some (.string (bs p.1)) ∧ w.cell? ⟨b, o + i * 2 + 1, none⟩ = some (.string (bs p.2)) := by
  have hlt : i < l.length := (List.getElem?_eq_some_iff.1 hi).1
  obtain ⟨A', c', he, _⟩ := h.shape
  injection he with h1 h2 h3
  subst h1; subst h2; subst h3
  obtain ⟨b, o, rfl, hb, hc⟩ := SlAt.cells h (by omega)
  obtain ⟨g1, g2⟩ := flat2 (fun p : Pr => .string (bs p.1)) (fun p : Pr => .string (bs p.2)) l i p hi
  exact ⟨b, o, rfl, hb, hc _ _ g1, hc _ _ g2⟩
end
theorem below_alloc1 (w : World) (o : Obj) : Below w.heap.size w (w.alloc o) := (Below.refl _ _).alloc (Nat.le_refl _) o

/-- where a byte lies -/
theorem byte_rng (c : UInt8) : (c.toNat : Int) < 48 ∨ (48 ≤ (c.toNat : Int) ∧ (c.toNat : Int) ≤ 57) ∨ (57 < (c.toNat : Int) ∧ (c.toNat : Int) < 65) ∨ (65 ≤ (c.toNat : Int) ∧ (c.toNat : Int) ≤ 90) ∨ (90 < (c.toNat : Int) ∧ (c.toNat : Int) < 97 ∧ (c.toNat : Int) ≠ 95) ∨ (c.toNat : Int) = 95 ∨
    (97 ≤ (c.toNat : Int) ∧ (c.toNat : Int) ≤ 122) ∨ 122 < (c.toNat : Int) := by omega
theorem letter_nat (c : UInt8) : letter c = decide (97 ≤ (c.toNat : Int) ∧ (c.toNat : Int) ≤ 122 ∨ 65 ≤ (c.toNat : Int) ∧ (c.toNat : Int) ≤ 90 ∨ (c.toNat : Int) = 95) := by
  unfold letter
  rw [decide_eq_decide, UInt8.le_iff_toNat_le, UInt8.le_iff_toNat_le, UInt8.le_iff_toNat_le, UInt8.le_iff_toNat_le, ← UInt8.toNat_inj]
  simp
  omega
theorem digit_nat (c : UInt8) : digit c = decide (48 ≤ (c.toNat : Int) ∧ (c.toNat : Int) ≤ 57) := by
  unfold digit
  rw [decide_eq_decide, UInt8.le_iff_toNat_le, UInt8.le_iff_toNat_le]
  simp
  omega
theorem sign_letter {c : UInt8} (h : 97 ≤ (c.toNat : Int) ∧ (c.toNat : Int) ≤ 122 ∨ 65 ≤ (c.toNat : Int) ∧ (c.toNat : Int) ≤ 90 ∨ (c.toNat : Int) = 95) (f : Bool) : signB f c = true := by
  unfold signB; rw [letter_nat, decide_eq_true h, Bool.true_or]
theorem sign_digit {c : UInt8} (h : 48 ≤ (c.toNat : Int) ∧ (c.toNat : Int) ≤ 57) (f : Bool) : signB f c = !f := by
  unfold signB
  rw [letter_nat, digit_nat, decide_eq_false (by omega), decide_eq_true h, Bool.false_or, Bool.and_true]
theorem sign_other {c : UInt8} (h : ¬ (97 ≤ (c.toNat : Int) ∧ (c.toNat : Int) ≤ 122 ∨ 65 ≤ (c.toNat : Int) ∧ (c.toNat : Int) ≤ 90 ∨ (c.toNat : Int) = 95)) (h2 : ¬ (48 ≤ (c.toNat : Int) ∧ (c.toNat : Int) ≤ 57)) (f : Bool) : signB f c = false := by
  unfold signB
  rw [letter_nat, digit_nat, decide_eq_false h, decide_eq_false h2, Bool.and_false]; rfl

/-- all signs up to the k-th may stand there -/
def signs (l : List UInt8) (k : Nat) : Prop := ∀ j c, j < k → l[j]? = some c → signB (j == 0) c = true
theorem signs_zero (l : List UInt8) : signs l 0 := fun j _ h => absurd h (Nat.not_lt_zero j)
theorem signs_succ {l : List UInt8} {k : Nat} {c : UInt8} (h : signs l k) (hc : l[k]? = some c) (hs : signB (k == 0) c = true) : signs l (k + 1) := by
  intro j d hj hd
  by_cases hjk : j < k
  · exact h j d hjk hd
  · obtain rfl : j = k := by omega
    rw [hc] at hd
    injection hd with hd
    subst hd
    exact hs
theorem sign_weak {c : UInt8} {b : Bool} (h : signB b c = true) : signB false c = true := by
  unfold signB at *
  rcases hl : letter c with _ | _
  · rw [hl] at h
    simp at h ⊢
    exact h.2
  · rfl
theorem nameB_signs {l : List UInt8} (h : signs l l.length) : nameB l = (!l.isEmpty && decide (l.length ≤ 40)) := by
  unfold nameB
  cases l with
  | nil => rfl
  | cons c r =>
    have h0 : signB true c = true := h 0 c (by simp) rfl
    have ha : (c :: r).all (signB false) = true := by
      rw [List.all_eq_true]
      intro x hx
      obtain ⟨i, hi, he⟩ := List.mem_iff_getElem.1 hx
      exact sign_weak (h i x hi (by rw [List.getElem?_eq_getElem hi, he]))
    rw [ha]
    simp [h0]
theorem nameB_bad {l : List UInt8} {k : Nat} {c : UInt8} (hc : l[k]? = some c) (hs : signB (k == 0) c = false) : nameB l = false := by
  unfold nameB
  cases l with
  | nil => rfl
  | cons d r =>
    match k with
    | 0 =>
      simp at hc
      subst hc
      have hs : signB true d = false := hs
      simp [hs]
    | k + 1 =>
      have : (d :: r).all (signB false) = false := by
        rw [Bool.eq_false_iff]
        intro h
        rw [List.all_eq_true] at h
        have := h c (List.mem_of_getElem? hc)
        rw [show signB ((k + 1) == 0) c = signB false c from rfl, this] at hs
        cases hs
      rw [this]
      simp

set_option maxHeartbeats 4000000 in
set_option maxRecDepth 10000 in
theorem goodName_any (l : List UInt8) (w : World) (hl : l.length ≤ 1000000000000) :
    Calls Tryz.prog 88 #[.string (bs l)] w (RetBelow w (.bool (nameB l))) := by
  obtain ⟨Z, hZ⟩ : ∃ Z, Z = nameB l := ⟨_, rfl⟩
  rw [← hZ]
  have HZ := Lib.hid hZ
  clear hZ
  go_enter Tryz.func88, Tryz.ntmps88
  go_wp2_with (refine wpList_bytes rfl (.tmp 6) 95 9 rfl bytes_ty Tryz.underlying9 _ rfl (by rw [bs_size]; unfold maxLen; omega) ?_; intro v w1 hb hbl _; obtain ⟨A, c, rfl, hlc⟩ := Buf.shape hb; dsimp only)
  rw [bs_data] at *
  go_loop [9] (fun i => ∃ k : Nat, k ≤ l.length ∧ i = .int .i64 k ∧ Hid (signs l k)) (fun i => l.length - (intOf i).toNat)
  case atStart => exact ⟨0, Nat.zero_le _, rfl, Lib.hid (signs_zero l)⟩
  case round =>
    obtain ⟨k, hk, rfl, hsg⟩ := hrel
    by_cases hgo : k < l.length
    · obtain ⟨c, hc⟩ : ∃ c, l[k]? = some c := ⟨_, List.getElem?_eq_getElem hgo⟩
      obtain ⟨b, o, rfl, hbb, hcc⟩ := Buf.cell hb (by omega)
      have hcell : w1.cell? ⟨b, o + k, none⟩ = some (.int .u8 (c.toNat : Int)) := by
        rw [hcc k (by omega)]; simp [bcs, hc]
      have HC := Lib.hid hc
      have HB := Lib.hid hb
      have h0 : k = 0 ∨ 0 < k := by omega
      have hrng := byte_rng c
      clear hc hb hcc
      rcases hrng with h1 | ⟨h1, h2⟩ | ⟨h1, h2⟩ | ⟨h1, h2⟩ | ⟨h1, h2, h3⟩ | h1 | ⟨h1, h2⟩ | h1
      case inr.inl =>
        have hs := sign_digit ⟨h1, h2⟩
        have HS := Lib.hid hs
        clear hs
        have hne : ((c.toNat : Int) == 95) = false := by rw [beq_eq_false_iff_ne]; omega
        rcases h0 with h0 | h0
        · have hk0 : ((k : Int) == 0) = true := by rw [beq_iff_eq]; omega
          have hk1 : (k == 0) = true := by rw [beq_iff_eq]; omega
          have HK1 := Lib.hid hk1
          clear hk1 h0
          go_wp2_with fail
          go_ret
          exact ⟨by rw [HZ.out, nameB_bad HC.out (by rw [HS.out, HK1.out]; rfl)]; rfl, hbl⟩
        · have hk0 : ((k : Int) == 0) = false := by rw [beq_eq_false_iff_ne]; omega
          go_wp2_with fail
          go_round
          case rel => exact ⟨k + 1, by omega, by go_num, Lib.hid (signs_succ hsg.out HC.out (by rw [HS.out, show (k == 0) = false from by rw [beq_eq_false_iff_ne]; omega]; rfl))⟩
          case measure => simp [intOf]; omega
      case inr.inr.inr.inr.inr.inl =>
        have hs := sign_letter (.inr (.inr h1))
        have HS := Lib.hid hs
        have hne : ((c.toNat : Int) == 95) = true := by rw [beq_iff_eq]; omega
        clear hs h1
        have h1 : (c.toNat : Int) ≤ 95 ∧ 95 ≤ (c.toNat : Int) := by rw [beq_iff_eq] at hne; omega
        obtain ⟨h1, h2⟩ := h1
        go_wp2_with fail
        go_round
        case rel => exact ⟨k + 1, by omega, by go_num, Lib.hid (signs_succ hsg.out HC.out (HS.out _))⟩
        case measure => simp [intOf]; omega
      case inr.inr.inr.inl =>
        have hs := sign_letter (.inr (.inl ⟨h1, h2⟩))
        have HS := Lib.hid hs
        clear hs
        go_wp2_with fail
        go_round
        case rel => exact ⟨k + 1, by omega, by go_num, Lib.hid (signs_succ hsg.out HC.out (HS.out _))⟩
        case measure => simp [intOf]; omega
      case inr.inr.inr.inr.inr.inr.inl =>
        have hs := sign_letter (.inl ⟨h1, h2⟩)
        have HS := Lib.hid hs
        clear hs
        go_wp2_with fail
        go_round
        case rel => exact ⟨k + 1, by omega, by go_num, Lib.hid (signs_succ hsg.out HC.out (HS.out _))⟩
        case measure => simp [intOf]; omega
      all_goals
        have hs : ∀ f, signB f c = false := sign_other (by omega) (by omega)
        have HS := Lib.hid hs
        clear hs
        have hne : ((c.toNat : Int) == 95) = false := by rw [beq_eq_false_iff_ne]; omega
        first | (have hx : (c.toNat : Int) < 48 := (by omega)) | ((have hx : 57 < (c.toNat : Int) := (by omega)); (have hy : 48 ≤ (c.toNat : Int) := (by omega)))
        try (have hx3 : 65 ≤ (c.toNat : Int) := (by omega))
        try (have hx4 : decide ((c.toNat : Int) ≤ 90) = false := decide_eq_false (by omega))
        try (have hx5 : decide ((c.toNat : Int) ≤ 122) = false := decide_eq_false (by omega))
        rcases h0 with h0 | h0
        · have hk0 : ((k : Int) == 0) = true := by rw [beq_iff_eq]; omega
          clear h0
          go_wp2_with fail
          go_ret
          exact ⟨by rw [HZ.out, nameB_bad HC.out (HS.out _)]; rfl, hbl⟩
        · have hk0 : ((k : Int) == 0) = false := by rw [beq_eq_false_iff_ne]; omega
          go_wp2_with fail
          go_ret
          exact ⟨by rw [HZ.out, nameB_bad HC.out (HS.out _)]; rfl, hbl⟩
    · obtain rfl : k = l.length := by omega
      have hz := HZ.out
      rw [nameB_signs hsg.out] at hz
      have HZ2 := Lib.hid hz
      clear hz
      have h0 : l = [] ∨ 0 < l.length := by cases l <;> simp
      rcases h0 with rfl | h0
      · go_wp2_with fail
        go_ret
        exact ⟨by rw [HZ2.out]; rfl, hbl⟩
      · have hne : (l != []) = true := by rw [bne_iff_ne]; intro h; rw [h] at h0; exact absurd h0 (by simp)
        have he : l.isEmpty = false := by cases l; exact absurd h0 (by simp); rfl
        by_cases h40 : l.length ≤ 40
        · go_wp2_with fail
          go_ret
          exact ⟨by rw [HZ2.out, he, decide_eq_true h40, decide_eq_true (by omega)]; rfl, hbl⟩
        · go_wp2_with fail
          go_ret
          exact ⟨by rw [HZ2.out, he, decide_eq_false h40, decide_eq_false (by omega)]; rfl, hbl⟩

set_option maxHeartbeats 4000000 in
set_option maxRecDepth 10000 in
theorem pget_any (v : Value) (l : List Pr) (x : List UInt8) (w : World) (h : PsAt w v l) :
    Calls Tryz.prog 59 #[v, .string (bs x)] w (RetBelow w (.string (bs (Lab.get l x)))) := by
  obtain ⟨A, c, rfl, hlc, hcm⟩ := h.shape
  unfold maxLen at hcm
  obtain ⟨Z, hZ⟩ : ∃ Z, Z = Lab.get l x := ⟨_, rfl⟩
  rw [← hZ]
  have HZ := Lib.hid hZ
  clear hZ
  go_enter Tryz.func59, Tryz.ntmps59
  go_wp2_with fail
  go_loopw [9] (fun i wr => ∃ k : Nat, k ≤ l.length ∧ i = .int .i64 k ∧ Below w.heap.size w wr ∧ Hid (∀ p ∈ l.take k, (p.1 == x) = false)) (fun i _ => l.length - (intOf i).toNat)
  case atStart => exact ⟨0, Nat.zero_le _, rfl, Below.refl _ _, Lib.hid (by simp)⟩
  case round =>
    obtain ⟨k, hk, rfl, hb, hx⟩ := hrel
    by_cases hgo : k < l.length
    · obtain ⟨p, hp⟩ : ∃ p, l[k]? = some p := ⟨_, List.getElem?_eq_getElem hgo⟩
      obtain ⟨b, o, rfl, hbb, h1, h2⟩ := (h.below hb).at_ hp
      have HP := Lib.hid hp
      clear hp
      by_cases he : (p.1 == x) = true
      · have hz : Z = p.2 := by
          rw [HZ.out]
          unfold Lab.get
          have : l.find? (fun p => p.1 == x) = some p := by
            obtain ⟨hl, hq⟩ := List.getElem?_eq_some_iff.1 HP.out
            have hsplit : l = l.take k ++ p :: l.drop (k + 1) := by
              rw [← hq, List.getElem_cons_drop, List.take_append_drop]
            rw [hsplit, List.find?_append, List.find?_eq_none.2 (fun q hq => by rw [hx.out q hq]; simp)]
            simp [he]
          rw [this]
        have HZ2 := Lib.hid hz
        clear hz
        go_wp2_with fail
        go_ret
        exact ⟨by rw [HZ2.out]; rfl, below_trans hb (below_alloc1 _ _)⟩
      · have he : (p.1 == x) = false := by simpa using he
        go_wp2_with fail
        go_roundw
        case rel =>
          refine ⟨k + 1, by omega, by go_num, below_trans hb (below_alloc1 _ _), Lib.hid (fun q hq => ?_)⟩
          rw [List.take_add_one, HP.out, List.mem_append] at hq
          rcases hq with hq | hq
          · exact hx.out q hq
          · simp at hq
            subst hq
            exact he
        case measure => simp [intOf]; omega
    · have hz : Z = [] := by
        rw [HZ.out]
        unfold Lab.get
        have h0 := hx.out
        rw [List.take_of_length_le (by omega)] at h0
        rw [List.find?_eq_none.2 (fun q hq => by rw [h0 q hq]; simp)]
      have HZ2 := Lib.hid hz
      clear hz
      go_wp2_with fail
      go_ret
      exact ⟨by rw [HZ2.out]; rfl, hb⟩

end Go.Proofs.YtjklcojnbcemoaaGreatDoor

/-
  Layer 6: the walk of label's Check.
-/
namespace Go.Proofs.YtjklcojnbcemoaaGreatDoor
open Go.RowKit Go.Bar Go.Bar.Leb Go.Bar.Lab

/-- Check's answer -/
def errL (l : List Pr) : Int := if chk l = true then 0 else 12
theorem errL_ok {l : List Pr} (h : Ok l) : errL l = 0 := by unfold errL; rw [if_pos (chk_true h)]
theorem errL_no {l : List Pr} (h : ¬ Ok l) : errL l = 12 := by unfold errL; rw [if_neg (by rw [chk_false h]; simp)]
theorem errL_bad {l : List Pr} {k : Nat} (hk : k < l.length) (h : ¬ good l k) : errL l = 12 := errL_no fun h' => h (((ok_iff l).1 h').2.2 k hk)
theorem good_at {l : List Pr} {k : Nat} {p : Pr} (h : l[k]? = some p) : good l k ↔ okP p = true ∧ (0 < k → (l.getD (k - 1) ([], [])).1 < p.1) := by
  unfold good
  rw [show l.getD k ([], []) = p by rw [List.getD_eq_getElem?_getD, h]; rfl]
theorem okP_iff (p : Pr) : okP p = true ↔ nameB p.1 = true ∧ p.2 ≠ [] ∧ p.2.length ≤ 40 := by
  unfold okP
  simp only [Bool.and_eq_true, decide_eq_true_eq, Bool.not_eq_true', List.isEmpty_eq_false_iff]
  constructor
  · rintro ⟨⟨a, b⟩, c⟩; exact ⟨a, b, c⟩
  · rintro ⟨a, b, c⟩; exact ⟨⟨a, b⟩, c⟩

set_option maxHeartbeats 8000000 in
set_option maxRecDepth 10000 in
theorem lcheck_any (v : Value) (l : List Pr) (w : World) (h : PsAt w v l) (hp : ∀ p ∈ l, p.1.length ≤ 1000000000000) :
    Calls Tryz.prog 76 #[v] w (RetBelow w (.int .i64 (errL l))) := by
  obtain ⟨A, c, rfl, hlc, hcm⟩ := h.shape
  unfold maxLen at hcm
  obtain ⟨Z, hZ⟩ : ∃ Z, Z = errL l := ⟨_, rfl⟩
  rw [← hZ]
  have HB := Lib.hid (fun k (hk : k < l.length) (h : ¬ good l k) => hZ.trans (errL_bad hk h))
  have HN := Lib.hid (fun (h : ¬ Ok l) => hZ.trans (errL_no h))
  have HY := Lib.hid (fun (h : Ok l) => hZ.trans (errL_ok h))
  clear hZ
  by_cases h0 : l.length = 0
  · have hz := HN.out (fun h => by have := h.1; omega)
    have hb : ((l.length : Int) == 0) = true := by rw [beq_iff_eq]; omega
    subst hz
    clear h0 HB HN HY
    go_enter Tryz.func76, Tryz.ntmps76
    go_wp2_with fail
    go_ret
    exact ⟨rfl, Below.refl _ _⟩
  · have hb : ((l.length : Int) == 0) = false := by rw [beq_eq_false_iff_ne]; omega
    have h0 : 0 < l.length := by omega
    by_cases h8 : 8 < l.length
    · have hz := HN.out (fun h => by have := h.2.1; omega)
      subst hz
      clear HB HN HY
      go_enter Tryz.func76, Tryz.ntmps76
      go_wp2_with fail
      go_ret
      exact ⟨rfl, Below.refl _ _⟩
    · have h8 : decide (8 < (l.length : Int)) = false := decide_eq_false (by omega)
      go_enter Tryz.func76, Tryz.ntmps76
      go_wp2_with fail
      go_loopw [15] (fun i wr => ∃ k : Nat, k ≤ l.length ∧ i = .int .i64 k ∧ Below w.heap.size w wr ∧ Hid (∀ j, j < k → good l j)) (fun i _ => l.length - (intOf i).toNat)
      case atStart => exact ⟨0, Nat.zero_le _, rfl, Below.refl _ _, Lib.hid (fun j hj => absurd hj (Nat.not_lt_zero j))⟩
      case round =>
        obtain ⟨k, hk, rfl, hbl, hgd⟩ := hrel
        by_cases hgo : k < l.length
        · obtain ⟨p, hpk⟩ : ∃ p, l[k]? = some p := ⟨_, List.getElem?_eq_getElem hgo⟩
          obtain ⟨b, o, rfl, hbb, g1, g2⟩ := (h.below hbl).at_ hpk
          have hpl := hp p (List.mem_of_getElem? hpk)
          have HG := Lib.hid (good_at hpk)
          have hck := (Blk.new wr #[.string (bs p.1), .string (bs p.2)] 84)
          have hgn := goodName_any p.1
          have hbl2 := (below_trans hbl (below_alloc1 wr (.cells #[.string (bs p.1), .string (bs p.2)] 84)))
          rcases hn : nameB p.1 with _ | _
          · have hz := HB.out k hgo (fun h => by have := (okP_iff p).1 (HG.out.1 h).1; rw [hn] at this; exact absurd this.1 (by simp))
            rw [hn] at hgn
            have HGN := Lib.hid hgn
            have HZ := Lib.hid hz
            clear hgn hn hz hpk
            go_wp2_with fail
            refine wp_region_known [(1, .string (bs p.1)), (2, .bool false)] (by kernel_rfl) 51 (by kernel_rfl) rfl ?_
            repeat (first
              | (refine Chain.step (v := ?_) (a' := ?_) rfl rfl rfl ?_ ?_ ?_
                 rotate_left 2
                 focus (intro w; go_simp; try with_reducible rfl)
                 focus (simp only [Act.put, List.setIfInBounds_toArray, List.set_cons_succ, List.set_cons_zero]; try rfl))
              | (refine Chain.call (a' := ?_) _ rfl rfl rfl (fun wx hw => ?_) ?_ ?_
                 rotate_left 1
                 focus
                   first
                   | (have y0 := (hck.below hw).cell (i := 0) rfl; have y1 := (hck.below hw).cell (i := 1) rfl; go_simp; first | exact ⟨rfl, Below.refl _ _⟩ | exact Below.refl _ _)
                   | (go_simp; ((with_reducible refine (HGN.out _ hpl).mono ?_); rintro e w2 ⟨rfl, h2⟩; exact ⟨rfl, h2⟩))
                 focus (simp only [Act.put, List.setIfInBounds_toArray, List.set_cons_succ, List.set_cons_zero]; try rfl))
              | (refine Chain.skip (a' := ?_) rfl rfl rfl ?_ ?_
                 rotate_left 1
                 focus (simp only [Act.put, List.setIfInBounds_toArray, List.set_cons_succ, List.set_cons_zero]; try rfl)))
            refine Chain.end_ (fun wz hwz _ => ?_)
            go_wp2_with fail
            go_ret
            exact ⟨by rw [HZ.out]; rfl, below_trans hbl2 hwz⟩
          · have HN2 := Lib.hid hn
            rw [hn] at hgn
            have HGN := Lib.hid hgn
            by_cases he : p.2 = []
            · have hz := HB.out k hgo (fun h => ((okP_iff p).1 (HG.out.1 h).1).2.1 he)
              have HZ := Lib.hid hz
              have hb1 : (p.2 == []) = true := by rw [beq_iff_eq]; exact he
              have hb2 : p.2.isEmpty = true := by rw [he]; rfl
              clear hgn hn hz hpk he
              go_wp2_with fail
              refine wp_region_known [(1, .string (bs p.1)), (2, .bool true), (6, .string (bs p.2))] (by kernel_rfl) 51 (by kernel_rfl) rfl ?_
              repeat (first
                | (refine Chain.step (v := ?_) (a' := ?_) rfl rfl rfl ?_ ?_ ?_
                   rotate_left 2
                   focus (intro w; go_simp; try with_reducible rfl)
                   focus (simp only [Act.put, List.setIfInBounds_toArray, List.set_cons_succ, List.set_cons_zero]; try rfl))
                | (refine Chain.call (a' := ?_) _ rfl rfl rfl (fun wx hw => ?_) ?_ ?_
                   rotate_left 1
                   focus
                     first
                     | (have y0 := (hck.below hw).cell (i := 0) rfl; have y1 := (hck.below hw).cell (i := 1) rfl; go_simp; first | exact ⟨rfl, Below.refl _ _⟩ | exact Below.refl _ _)
                     | (go_simp; ((with_reducible refine (HGN.out _ hpl).mono ?_); rintro e w2 ⟨rfl, h2⟩; exact ⟨rfl, h2⟩))
                   focus (simp only [Act.put, List.setIfInBounds_toArray, List.set_cons_succ, List.set_cons_zero]; try rfl))
                | (refine Chain.skip (a' := ?_) rfl rfl rfl ?_ ?_
                   rotate_left 1
                   focus (simp only [Act.put, List.setIfInBounds_toArray, List.set_cons_succ, List.set_cons_zero]; try rfl)))
              refine Chain.end_ (fun wz hwz _ => ?_)
              go_wp2_with fail
              go_ret
              exact ⟨by rw [HZ.out]; rfl, below_trans hbl2 hwz⟩
            · have hb1 : (p.2 == []) = false := by rw [beq_eq_false_iff_ne]; exact he
              have hb2 : p.2.isEmpty = false := by rw [List.isEmpty_eq_false_iff]; exact he
              by_cases hl4 : p.2.length ≤ 40
              · have hd4 : decide (40 < (p.2.length : Int)) = false := decide_eq_false (by omega)
                have HOK := Lib.hid ((okP_iff p).2 ⟨hn, he, hl4⟩)
                clear hgn hn he
                rcases k with _ | j
                · have HGD := Lib.hid (show ∀ j, j < 0 + 1 → good l j from fun j hj => by
                    obtain rfl : j = 0 := by omega
                    exact HG.out.2 ⟨HOK.out, fun h => absurd h (Nat.lt_irrefl _)⟩)
                  clear hpk hgd hl4
                  simp only [Nat.zero_mul, Nat.add_zero] at g1 g2
                  go_wp2_with fail
                  refine wp_region_known [(1, .string (bs p.1)), (2, .bool true), (6, .string (bs p.2)), (11, .string (bs p.2))] (by kernel_rfl) 51 (by kernel_rfl) rfl ?_
                  repeat (first
                    | (refine Chain.step (v := ?_) (a' := ?_) rfl rfl rfl ?_ ?_ ?_
                       rotate_left 2
                       focus (intro w; go_simp; try with_reducible rfl)
                       focus (simp only [Act.put, List.setIfInBounds_toArray, List.set_cons_succ, List.set_cons_zero]; try rfl))
                    | (refine Chain.call (a' := ?_) _ rfl rfl rfl (fun wx hw => ?_) ?_ ?_
                       rotate_left 1
                       focus
                         first
                         | (have y0 := (hck.below hw).cell (i := 0) rfl; have y1 := (hck.below hw).cell (i := 1) rfl; go_simp; first | exact ⟨rfl, Below.refl _ _⟩ | exact Below.refl _ _)
                         | (go_simp; ((with_reducible refine (HGN.out _ hpl).mono ?_); rintro e w2 ⟨rfl, h2⟩; exact ⟨rfl, h2⟩))
                       focus (simp only [Act.put, List.setIfInBounds_toArray, List.set_cons_succ, List.set_cons_zero]; try rfl))
                    | (refine Chain.skip (a' := ?_) rfl rfl rfl ?_ ?_
                       rotate_left 1
                       focus (simp only [Act.put, List.setIfInBounds_toArray, List.set_cons_succ, List.set_cons_zero]; try rfl)))
                  refine Chain.end_ (fun wz hwz _ => ?_)
                  go_wp2_with fail
                  go_roundw
                  case rel => exact ⟨0 + 1, by omega, by go_num, below_trans hbl2 hwz, HGD⟩
                  case measure => simp [intOf]; omega
                · obtain ⟨q, hqk⟩ : ∃ q, l[j]? = some q := ⟨_, List.getElem?_eq_getElem (by omega)⟩
                  obtain ⟨b', o', hA, _, q1, _⟩ := (h.below hbl2).at_ hqk
                  injection hA with hA
                  injection hA with hA1 hA2 _
                  subst hA1; subst hA2
                  have HQ := Lib.hid q1
                  have hgq : (l.getD (j + 1 - 1) ([], [])).1 = q.1 := by rw [Nat.add_sub_cancel, List.getD_eq_getElem?_getD, hqk]; rfl
                  have hjw : IntKind.i64.wrap (j : Int) = (j : Int) := IntWalk.i64_in _ ⟨by omega, by omega⟩
                  have hjl : (j : Int) < (l.length : Int) := by omega
                  have hj0 : decide (0 < ((j : Int) + 1)) = true := decide_eq_true (by omega)
                  clear q1 hqk hpk
                  by_cases hlt : q.1 < p.1
                  · have hls : Op.bytesLess q.1 p.1 = true := by rw [less_eq]; exact decide_eq_true hlt
                    have HGD := Lib.hid (show ∀ i, i < j + 1 + 1 → good l i from fun i hi => by
                      by_cases hij : i < j + 1
                      · exact hgd.out i hij
                      · obtain rfl : i = j + 1 := by omega
                        exact HG.out.2 ⟨HOK.out, fun _ => by rw [hgq]; exact hlt⟩)
                    clear hgd hgq hlt hl4
                    go_wp2_with fail
                    refine wp_region_known [(1, .string (bs p.1)), (2, .bool true), (6, .string (bs p.2)), (11, .string (bs p.2)), (24, .string (bs q.1)), (26, .string (bs p.1))] (by kernel_rfl) 51 (by kernel_rfl) rfl ?_
                    repeat (first
                      | (refine Chain.step (v := ?_) (a' := ?_) rfl rfl rfl ?_ ?_ ?_
                         rotate_left 2
                         focus (intro w; go_simp; try with_reducible rfl)
                         focus (simp only [Act.put, List.setIfInBounds_toArray, List.set_cons_succ, List.set_cons_zero]; try rfl))
                      | (refine Chain.call (a' := ?_) _ rfl rfl rfl (fun wx hw => ?_) ?_ ?_
                         rotate_left 1
                         focus
                           first
                           | (have y0 := (hck.below hw).cell (i := 0) rfl; have y1 := (hck.below hw).cell (i := 1) rfl; have y2 := (hw.cell (p := ⟨b, o + j * 2, none⟩) (World.block_lt_of_cell? _ _ HQ.out)).trans HQ.out; go_simp; first | exact ⟨rfl, Below.refl _ _⟩ | exact Below.refl _ _)
                           | (go_simp; ((with_reducible refine (HGN.out _ hpl).mono ?_); rintro e w2 ⟨rfl, h2⟩; exact ⟨rfl, h2⟩))
                         focus (simp only [Act.put, List.setIfInBounds_toArray, List.set_cons_succ, List.set_cons_zero]; try rfl))
                      | (refine Chain.skip (a' := ?_) rfl rfl rfl ?_ ?_
                         rotate_left 1
                         focus (simp only [Act.put, List.setIfInBounds_toArray, List.set_cons_succ, List.set_cons_zero]; try rfl)))
                    refine Chain.end_ (fun wz hwz _ => ?_)
                    go_wp2_with fail
                    go_roundw
                    case rel => exact ⟨j + 1 + 1, by omega, by go_num, below_trans hbl2 hwz, HGD⟩
                    case measure => simp [intOf]; omega
                  · have hls : Op.bytesLess q.1 p.1 = false := by rw [less_eq]; exact decide_eq_false hlt
                    have HZ := Lib.hid (HB.out (j + 1) hgo (fun h => hlt (by have := (HG.out.1 h).2 (by omega); rwa [hgq] at this)))
                    clear hgd hgq hlt hl4
                    go_wp2_with fail
                    refine wp_region_known [(1, .string (bs p.1)), (2, .bool true), (6, .string (bs p.2)), (11, .string (bs p.2)), (24, .string (bs q.1)), (26, .string (bs p.1))] (by kernel_rfl) 51 (by kernel_rfl) rfl ?_
                    repeat (first
                      | (refine Chain.step (v := ?_) (a' := ?_) rfl rfl rfl ?_ ?_ ?_
                         rotate_left 2
                         focus (intro w; go_simp; try with_reducible rfl)
                         focus (simp only [Act.put, List.setIfInBounds_toArray, List.set_cons_succ, List.set_cons_zero]; try rfl))
                      | (refine Chain.call (a' := ?_) _ rfl rfl rfl (fun wx hw => ?_) ?_ ?_
                         rotate_left 1
                         focus
                           first
                           | (have y0 := (hck.below hw).cell (i := 0) rfl; have y1 := (hck.below hw).cell (i := 1) rfl; have y2 := (hw.cell (p := ⟨b, o + j * 2, none⟩) (World.block_lt_of_cell? _ _ HQ.out)).trans HQ.out; go_simp; first | exact ⟨rfl, Below.refl _ _⟩ | exact Below.refl _ _)
                           | (go_simp; ((with_reducible refine (HGN.out _ hpl).mono ?_); rintro e w2 ⟨rfl, h2⟩; exact ⟨rfl, h2⟩))
                         focus (simp only [Act.put, List.setIfInBounds_toArray, List.set_cons_succ, List.set_cons_zero]; try rfl))
                      | (refine Chain.skip (a' := ?_) rfl rfl rfl ?_ ?_
                         rotate_left 1
                         focus (simp only [Act.put, List.setIfInBounds_toArray, List.set_cons_succ, List.set_cons_zero]; try rfl)))
                    refine Chain.end_ (fun wz hwz _ => ?_)
                    go_wp2_with fail
                    go_ret
                    exact ⟨by rw [HZ.out]; rfl, below_trans hbl2 hwz⟩
              · have hd4 : decide (40 < (p.2.length : Int)) = true := decide_eq_true (by omega)
                have HZ := Lib.hid (HB.out k hgo (fun h => hl4 ((okP_iff p).1 (HG.out.1 h).1).2.2))
                clear hgn hn hpk he hl4
                go_wp2_with fail
                refine wp_region_known [(1, .string (bs p.1)), (2, .bool true), (6, .string (bs p.2)), (11, .string (bs p.2))] (by kernel_rfl) 51 (by kernel_rfl) rfl ?_
                repeat (first
                  | (refine Chain.step (v := ?_) (a' := ?_) rfl rfl rfl ?_ ?_ ?_
                     rotate_left 2
                     focus (intro w; go_simp; try with_reducible rfl)
                     focus (simp only [Act.put, List.setIfInBounds_toArray, List.set_cons_succ, List.set_cons_zero]; try rfl))
                  | (refine Chain.call (a' := ?_) _ rfl rfl rfl (fun wx hw => ?_) ?_ ?_
                     rotate_left 1
                     focus
                       first
                       | (have y0 := (hck.below hw).cell (i := 0) rfl; have y1 := (hck.below hw).cell (i := 1) rfl; go_simp; first | exact ⟨rfl, Below.refl _ _⟩ | exact Below.refl _ _)
                       | (go_simp; ((with_reducible refine (HGN.out _ hpl).mono ?_); rintro e w2 ⟨rfl, h2⟩; exact ⟨rfl, h2⟩))
                     focus (simp only [Act.put, List.setIfInBounds_toArray, List.set_cons_succ, List.set_cons_zero]; try rfl))
                  | (refine Chain.skip (a' := ?_) rfl rfl rfl ?_ ?_
                     rotate_left 1
                     focus (simp only [Act.put, List.setIfInBounds_toArray, List.set_cons_succ, List.set_cons_zero]; try rfl)))
                refine Chain.end_ (fun wz hwz _ => ?_)
                go_wp2_with fail
                go_ret
                exact ⟨by rw [HZ.out]; rfl, below_trans hbl2 hwz⟩
        · obtain rfl : k = l.length := by omega
          have HZ := Lib.hid (HY.out ((ok_iff l).2 ⟨h0, by have := of_decide_eq_false h8; omega, hgd.out⟩))
          go_wp2_with fail
          go_ret
          exact ⟨by rw [HZ.out]; rfl, hbl⟩

end Go.Proofs.YtjklcojnbcemoaaGreatDoor
