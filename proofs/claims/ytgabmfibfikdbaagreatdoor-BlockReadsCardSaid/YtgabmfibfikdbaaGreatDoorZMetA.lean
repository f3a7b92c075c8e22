/-
  Layer 9: the walks of meta's small functions.
-/
import Derived.Test.YtgabmfibfikdbaaGreatDoorZIdtM
import Derived.Test.YtgabmfibfikdbaaGreatDoorZLebA
import Derived.Test.YtgabmfibfikdbaaGreatDoorZLib4
import Derived.Test.YtgabmfibfikdbaaGreatDoorZLib8
import Derived.Test.YtgabmfibfikdbaaGreatDoorZMrgS
import Derived.Test.YtgabmfibfikdbaaGreatDoorZLib9
import Derived.BigRegion
import Derived.Test.YtgabmfibfikdbaaGreatDoorZLib18
import Derived.Test.YtgabmfibfikdbaaGreatDoorZLib25
import Derived.Deep.RegionWith
import Derived.Test.YtgabmfibfikdbaaGreatDoorZLib5
import Derived.Shelf.Small.Bits
import Derived.Shelf.Small.Strs
import Derived.Shelf.Strconv.Itoa0
import Derived.Shelf.Strings.Search1
import Derived.Shelf.Strings.Search2
import Derived.Shelf.Strings.Search3
import Derived.Shelf.Strings.Cut
import Derived.Shelf.LaysM
import Derived.Shelf.Strings.Shaped
import Derived.Shelf.Unicode.DecodeSlow
import Derived.Ground.SlgnProg
import Derived.Shelf.SlicesE.Clone
import Derived.Test.YtgabmfibfikdbaaGreatDoorProg
import Derived.Shelf.SlGeneric
import Derived.Ground.SlsfProg
import Derived.Shelf.SlSortCmp.WholeK

namespace Go.Proofs.YtgabmfibfikdbaaGreatDoor
open Go.RowKit Go.Bar Go.Bar.Leb Go.Bar.Frm Go.Bar.Idt Go.Bar.Met

theorem idOk_some {l : List UInt8} {t s : Nat} (h : parse l = some (t, s)) : idOk l = true := by unfold idOk; rw [h]; rfl
theorem idOk_none {l : List UInt8} (h : parse l = none) : idOk l = false := by unfold idOk; rw [h]; rfl

set_option maxHeartbeats 1000000 in
set_option maxRecDepth 10000 in
theorem isID_any (l : List UInt8) (w : World) (hl : l.length ≤ 1000000000000) :
    Calls Tryz.prog 71 #[.string (bs l)] w fun e w' => e = .returned (.bool (idOk l)) ∧ w = w' := by
  have hp := parse_any l
  obtain ⟨u, hu⟩ : ∃ u, parse l = u := ⟨_, rfl⟩
  rw [hu] at hp
  rcases u with _ | ⟨t, s⟩
  · rw [idOk_none hu]
    simp only [parseV] at hp
    have HP := Lib.hid hp
    clear hp hu
    go_enter Tryz.func71, Tryz.ntmps71
    go_wp2_with fail
    refine (HP.out _ hl).mono ?_
    rintro e w' ⟨rfl, rfl⟩
    go_wp2_with fail
    go_ret
    exact ⟨rfl, rfl⟩
  · rw [idOk_some hu]
    simp only [parseV] at hp
    have HP := Lib.hid hp
    clear hp hu
    go_enter Tryz.func71, Tryz.ntmps71
    go_wp2_with fail
    refine (HP.out _ hl).mono ?_
    rintro e w' ⟨rfl, rfl⟩
    go_wp2_with fail
    go_ret
    exact ⟨rfl, rfl⟩

def scs (ss : List (List UInt8)) : List Value := ss.map fun s => .string (bs s)
def fcs (fs : List Fl) : List Value := fs.flatMap fun f => [.string (bs f.name), .int .i64 f.size, .int .u32 f.sum]
theorem fcs_at : ∀ (fs : List Fl) (i : Nat) (f : Fl), fs[i]? = some f → (fcs fs)[i * 3]? = some (.string (bs f.name)) ∧ (fcs fs)[i * 3 + 1]? = some (.int .i64 f.size) ∧ (fcs fs)[i * 3 + 2]? = some (.int .u32 f.sum)
  | [], i, x, h => by simp at h
  | y :: l, 0, x, h => by simp at h; subst h; simp [fcs]
  | y :: l, i + 1, x, h => by
    obtain ⟨h1, h2, h3⟩ := fcs_at l i x (by simpa using h)
    unfold fcs at h1 h2 h3 ⊢
    simp only [List.flatMap_cons, List.cons_append, List.nil_append]
    rw [show (i + 1) * 3 = i * 3 + 1 + 1 + 1 by omega]
    exact ⟨by simpa using h1, by simpa using h2, by simpa using h3⟩

def FlsAt (w : World) (v : Value) (fs : List Fl) : Prop := SlAt w 3 v fs.length (fcs fs)
def SrcAt (w : World) (v : Value) (ss : List (List UInt8)) : Prop := SlAt w 1 v ss.length (scs ss)
theorem FlsAt.below {w w' : World} {v : Value} {fs : List Fl} (h : FlsAt w v fs) (hb : Below w.heap.size w w') : FlsAt w' v fs := SlAt.below h hb
theorem SrcAt.below {w w' : World} {v : Value} {ss : List (List UInt8)} (h : SrcAt w v ss) (hb : Below w.heap.size w w') : SrcAt w' v ss := SlAt.below h hb
theorem FlsAt.shape {w : World} {v : Value} {fs : List Fl} (h : FlsAt w v fs) : ∃ A c, v = .slice A fs.length c ∧ fs.length ≤ c ∧ c ≤ maxLen := SlAt.shape h
theorem SrcAt.shape {w : World} {v : Value} {ss : List (List UInt8)} (h : SrcAt w v ss) : ∃ A c, v = .slice A ss.length c ∧ ss.length ≤ c ∧ c ≤ maxLen := SlAt.shape h
theorem SrcAt.at_ {w : World} {A : Option Addr} {n c i : Nat} {ss : List (List UInt8)} {s : List UInt8} (h : SrcAt w (.slice A n c) ss) (hi : ss[i]? = some s) : ∃ b o, A = some ⟨b, o, none⟩ ∧ b < w.heap.size ∧ w.cell? ⟨b, o + i, none⟩ = some (.string (bs s)) := by
  have hlt : i < ss.length := (List.getElem?_eq_some_iff.1 hi).1
  obtain ⟨A', c', he, _⟩ := h.shape
  injection he with h1 h2 h3
  subst h1; subst h2; subst h3
  obtain ⟨b, o, rfl, hb, hc⟩ := SlAt.cells h (by omega)
  exact ⟨b, o, rfl, hb, hc i _ (by unfold scs; rw [List.getElem?_map, hi]; rfl)⟩
theorem FlsAt.at_ {w : World} {A : Option Addr} {n c i : Nat} {fs : List Fl} {f : Fl} (h : FlsAt w (.slice A n c) fs) (hi : fs[i]? = some f) : ∃ b o, A = some ⟨b, o, none⟩ ∧ b < w.heap.size ∧ w.cell? ⟨b, o + i * 3, none⟩ = some (.string (bs f.name)) ∧ w.cell? ⟨b, o + i * 3 + 1, none⟩ = some (.int .i64 f.size) ∧ w.cell? ⟨b, o + i * 3 + 2, none⟩ = some (.int .u32 f.sum) := by
  have hlt : i < fs.length := (List.getElem?_eq_some_iff.1 hi).1
  obtain ⟨A', c', he, _⟩ := h.shape
  injection he with h1 h2 h3
  subst h1; subst h2; subst h3
  obtain ⟨b, o, rfl, hb, hc⟩ := SlAt.cells h (by omega)
  obtain ⟨g1, g2, g3⟩ := fcs_at fs i _ hi
  exact ⟨b, o, rfl, hb, hc _ _ g1, hc _ _ g2, hc _ _ g3⟩

set_option maxHeartbeats 1000000 in
set_option maxRecDepth 10000 in
theorem mof_any (n d : List UInt8) (w : World) (hd : d.length ≤ 1000000000000) :
    Calls Tryz.prog 31 #[.string (bs n), .string (bs d)] w (RetBelow w (.agg #[.string (bs n), .int .i64 d.length, .int .u32 (sum d)])) := by
  have hs : ∀ w, Calls Tryz.prog 70 #[.string (bs d)] w fun e w' => e = .returned (.int .u32 (sum d)) ∧ w = w' := fun w => by
    have := sum_any (bs d) w (by rw [bs_size]; unfold maxLen; omega)
    rwa [bs_data] at this
  have HS := Lib.hid hs
  clear hs
  go_enter Tryz.func31, Tryz.ntmps31
  go_wp2_with fail
  refine (HS.out _).mono ?_
  rintro e w' ⟨rfl, rfl⟩
  go_wp2_with fail
  refine bodyPost_ret (v := .agg #[.string (bs n), .int .i64 d.length, .int .u32 (sum d)]) (by simp [results, Tryz.results31, go_sem]) rfl ⟨rfl, ?_⟩
  repeat (refine Below.setCell ?_ (Nat.le_refl _) _)
  exact (Below.refl _ _).alloc (Nat.le_refl _) _

set_option maxHeartbeats 1000000 in
set_option maxRecDepth 10000 in
theorem holds_any (n d : List UInt8) (size : Int) (sm : Nat) (w : World) (hd : d.length ≤ 1000000000000) :
    Calls Tryz.prog 68 #[.agg #[.string (bs n), .int .i64 size, .int .u32 sm], .string (bs d)] w (RetBelow w (.bool (size == d.length && sm == sum d))) := by
  have hs : ∀ w, Calls Tryz.prog 70 #[.string (bs d)] w fun e w' => e = .returned (.int .u32 (sum d)) ∧ w = w' := fun w => by
    have := sum_any (bs d) w (by rw [bs_size]; unfold maxLen; omega)
    rwa [bs_data] at this
  have HS := Lib.hid hs
  clear hs
  by_cases h : (size == (d.length : Int)) = true
  · rw [h, Bool.true_and]
    obtain ⟨b, hb⟩ : ∃ b, (((sm : Nat) : Int) == ((sum d : Nat) : Int)) = b := ⟨_, rfl⟩
    have hb' : (sm == sum d) = b := by
      rw [← hb, Bool.eq_iff_iff, beq_iff_eq, beq_iff_eq]; omega
    rw [hb']
    have HB := Lib.hid hb'
    clear hb'
    go_enter Tryz.func68, Tryz.ntmps68
    go_wp2_with fail
    have hs2 : ∀ w, Calls Tryz.prog 70 #[.string (bs d)] w fun e w' => e = .returned (.int .u32 (sum d)) ∧ ∃ n, w' = w.drewN n := fun w => (HS.out w).mono (fun e w' ⟨h1, h2⟩ => ⟨h1, 0, h2.symm⟩)
    have HT := Lib.hid hs2
    clear hs2 HS
    go_quiet (first | (go_at_call 70; refine Calls.quiet_of (HT.out _)))
    go_wp2_with fail
    go_ret
    exact ⟨rfl, below_drewN ((Below.refl _ _).alloc (Nat.le_refl _) _) _⟩
  · have h : (size == (d.length : Int)) = false := by simpa using h
    rw [h, Bool.false_and]
    go_enter Tryz.func68, Tryz.ntmps68
    go_wp2_with fail
    go_quiet (fail)
    go_wp2_with fail
    go_ret
    exact ⟨rfl, below_drewN ((Below.refl _ _).alloc (Nat.le_refl _) _) _⟩

end Go.Proofs.YtgabmfibfikdbaaGreatDoor

/-
  Layer 9: the walks of meta's writers: fields, Put, Encode, EncodeMark.
-/
namespace Go.Proofs.YtgabmfibfikdbaaGreatDoor
open Go.RowKit Go.Bar Go.Bar.Leb Go.Bar.Frm Go.Bar.Idt Go.Bar.Met

theorem wrap_w64 (z : Int) : IntKind.u64.wrap z = ((w64 z : Nat) : Int) := by
  unfold w64
  rw [IntKind.wrap_u64]
  omega
theorem uint_w (V : Value) (xs : List UInt8) (z : Int) (W : World) (hx : xs.length + 10 ≤ 140737488355328) (hb : BBuf W 5 V xs) : Calls Tryz.prog 48 #[V, .int .u64 (IntKind.u64.wrap z)] W (RetB W V 5 xs (u (w64 z))) := by
  rw [wrap_w64]
  exact uint_any V xs (w64 z) W (w64_lt z) hx hb

end Go.Proofs.YtgabmfibfikdbaaGreatDoor

/-
  Layer 6: the walks of label's functions that look at pairs (goodName, Check, Get, Key).
-/
namespace Go.Proofs.YtgabmfibfikdbaaGreatDoor
open Go.RowKit Go.Bar Go.Bar.Leb Go.Bar.Lab

def pcs (l : List Pr) : List Value := l.flatMap fun p => [.string (bs p.1), .string (bs p.2)]
theorem pcs_append (l m : List Pr) : pcs (l ++ m) = pcs l ++ pcs m := List.flatMap_append
theorem pcs_snoc (l : List Pr) (p : Pr) : pcs (l ++ [p]) = pcs l ++ [.string (bs p.1), .string (bs p.2)] := by simp [pcs]
theorem pcs_one (l : List Pr) : ∀ u ∈ pcs l, u.oneCell' = true := by
  intro u hu
  unfold pcs at hu
  rw [List.mem_flatMap] at hu
  obtain ⟨p, _, hp⟩ := hu
  simp only [List.mem_cons, List.not_mem_nil, or_false] at hp
  rcases hp with rfl | rfl <;> rfl
def PsAt (w : World) (v : Value) (l : List Pr) : Prop := SlAt w 2 v l.length (pcs l)
section
variable {w w' : World} {v : Value} {l : List Pr}
theorem PsAt.below (h : PsAt w v l) (hb : Below w.heap.size w w') : PsAt w' v l := SlAt.below h hb
theorem PsAt.shape (h : PsAt w v l) : ∃ A c, v = .slice A l.length c ∧ l.length ≤ c ∧ c ≤ maxLen := SlAt.shape h
theorem PsAt.at_ {A : Option Addr} {n c i : Nat} {p : Pr} (h : PsAt w (.slice A n c) l) (hi : l[i]? = some p) : ∃ b o, A = some ⟨b, o, none⟩ ∧ b < w.heap.size ∧ w.cell? ⟨b, o + i * 2, none⟩ = some (.string (bs p.1)) ∧ w.cell? ⟨b, o + i * 2 + 1, none⟩ = some (.string (bs p.2)) := by
  have hlt : i < l.length := (List.getElem?_eq_some_iff.1 hi).1
  obtain ⟨A', c', he, _⟩ := h.shape
  injection he with h1 h2 h3
  subst h1; subst h2; subst h3
  obtain ⟨b, o, rfl, hb, hc⟩ := SlAt.cells h (by omega)
  obtain ⟨g1, g2⟩ := flat2 (fun p : Pr => .string (bs p.1)) (fun p : Pr => .string (bs p.2)) l i p hi
  exact ⟨b, o, rfl, hb, hc _ _ g1, hc _ _ g2⟩
end
theorem below_alloc1 (w : World) (o : Obj) : Below w.heap.size w (w.alloc o) := (Below.refl _ _).alloc (Nat.le_refl _) o

theorem byte_rng (c : UInt8) : (c.toNat : Int) < 48 ∨ (48 ≤ (c.toNat : Int) ∧ (c.toNat : Int) ≤ 57) ∨ (57 < (c.toNat : Int) ∧ (c.toNat : Int) < 65) ∨ (65 ≤ (c.toNat : Int) ∧ (c.toNat : Int) ≤ 90) ∨ (90 < (c.toNat : Int) ∧ (c.toNat : Int) < 97 ∧ (c.toNat : Int) ≠ 95) ∨ (c.toNat : Int) = 95 ∨
    (97 ≤ (c.toNat : Int) ∧ (c.toNat : Int) ≤ 122) ∨ 122 < (c.toNat : Int) := by omega
theorem letter_nat (c : UInt8) : letter c = decide (97 ≤ (c.toNat : Int) ∧ (c.toNat : Int) ≤ 122 ∨ 65 ≤ (c.toNat : Int) ∧ (c.toNat : Int) ≤ 90 ∨ (c.toNat : Int) = 95) := by
  unfold letter
  rw [decide_eq_decide, UInt8.le_iff_toNat_le, UInt8.le_iff_toNat_le, UInt8.le_iff_toNat_le, UInt8.le_iff_toNat_le, ← UInt8.toNat_inj]
  simp
  omega
theorem digit_nat (c : UInt8) : digit c = decide (48 ≤ (c.toNat : Int) ∧ (c.toNat : Int) ≤ 57) := by
  unfold digit
  rw [decide_eq_decide, UInt8.le_iff_toNat_le, UInt8.le_iff_toNat_le]
  simp
  omega
theorem sign_letter {c : UInt8} (h : 97 ≤ (c.toNat : Int) ∧ (c.toNat : Int) ≤ 122 ∨ 65 ≤ (c.toNat : Int) ∧ (c.toNat : Int) ≤ 90 ∨ (c.toNat : Int) = 95) (f : Bool) : signB f c = true := by
  unfold signB; rw [letter_nat, decide_eq_true h, Bool.true_or]
theorem sign_digit {c : UInt8} (h : 48 ≤ (c.toNat : Int) ∧ (c.toNat : Int) ≤ 57) (f : Bool) : signB f c = !f := by
  unfold signB
  rw [letter_nat, digit_nat, decide_eq_false (by omega), decide_eq_true h, Bool.false_or, Bool.and_true]
theorem sign_other {c : UInt8} (h : ¬ (97 ≤ (c.toNat : Int) ∧ (c.toNat : Int) ≤ 122 ∨ 65 ≤ (c.toNat : Int) ∧ (c.toNat : Int) ≤ 90 ∨ (c.toNat : Int) = 95)) (h2 : ¬ (48 ≤ (c.toNat : Int) ∧ (c.toNat : Int) ≤ 57)) (f : Bool) : signB f c = false := by
  unfold signB
  rw [letter_nat, digit_nat, decide_eq_false h, decide_eq_false h2, Bool.and_false]; rfl

def signs (l : List UInt8) (k : Nat) : Prop := ∀ j c, j < k → l[j]? = some c → signB (j == 0) c = true
theorem signs_zero (l : List UInt8) : signs l 0 := fun j _ h => absurd h (Nat.not_lt_zero j)
theorem signs_succ {l : List UInt8} {k : Nat} {c : UInt8} (h : signs l k) (hc : l[k]? = some c) (hs : signB (k == 0) c = true) : signs l (k + 1) := by
  intro j d hj hd
  by_cases hjk : j < k
  · exact h j d hjk hd
  · obtain rfl : j = k := by omega
    rw [hc] at hd
    injection hd with hd
    subst hd
    exact hs
theorem sign_weak {c : UInt8} {b : Bool} (h : signB b c = true) : signB false c = true := by
  unfold signB at *
  rcases hl : letter c with _ | _
  · rw [hl] at h
    simp at h ⊢
    exact h.2
  · rfl
theorem nameB_signs {l : List UInt8} (h : signs l l.length) : nameB l = (!l.isEmpty && decide (l.length ≤ 40)) := by
  unfold nameB
  cases l with
  | nil => rfl
  | cons c r =>
    have h0 : signB true c = true := h 0 c (by simp) rfl
    have ha : (c :: r).all (signB false) = true := by
      rw [List.all_eq_true]
      intro x hx
      obtain ⟨i, hi, he⟩ := List.mem_iff_getElem.1 hx
      exact sign_weak (h i x hi (by rw [List.getElem?_eq_getElem hi, he]))
    rw [ha]
    simp [h0]
theorem nameB_bad {l : List UInt8} {k : Nat} {c : UInt8} (hc : l[k]? = some c) (hs : signB (k == 0) c = false) : nameB l = false := by
  unfold nameB
  cases l with
  | nil => rfl
  | cons d r =>
    match k with
    | 0 =>
      simp at hc
      subst hc
      have hs : signB true d = false := hs
      simp [hs]
    | k + 1 =>
      have : (d :: r).all (signB false) = false := by
        rw [Bool.eq_false_iff]
        intro h
        rw [List.all_eq_true] at h
        have := h c (List.mem_of_getElem? hc)
        rw [show signB ((k + 1) == 0) c = signB false c from rfl, this] at hs
        cases hs
      rw [this]
      simp

set_option maxHeartbeats 4000000 in
set_option maxRecDepth 10000 in
theorem goodName_any (l : List UInt8) (w : World) (hl : l.length ≤ 1000000000000) :
    Calls Tryz.prog 95 #[.string (bs l)] w (RetBelow w (.bool (nameB l))) := by
  obtain ⟨Z, hZ⟩ : ∃ Z, Z = nameB l := ⟨_, rfl⟩
  rw [← hZ]
  have HZ := Lib.hid hZ
  clear hZ
  go_enter Tryz.func95, Tryz.ntmps95
  go_wp2_with (refine wpList_bytes rfl (.tmp 6) 96 9 rfl bytes_ty Tryz.underlying9 _ rfl (by rw [bs_size]; unfold maxLen; omega) ?_; intro v w1 hb hbl _; obtain ⟨A, c, rfl, hlc⟩ := Buf.shape hb; dsimp only)
  rw [bs_data] at *
  go_loop [9] (fun i => ∃ k : Nat, k ≤ l.length ∧ i = .int .i64 k ∧ Hid (signs l k)) (fun i => l.length - (intOf i).toNat)
  case atStart => exact ⟨0, Nat.zero_le _, rfl, Lib.hid (signs_zero l)⟩
  case round =>
    obtain ⟨k, hk, rfl, hsg⟩ := hrel
    by_cases hgo : k < l.length
    · obtain ⟨c, hc⟩ : ∃ c, l[k]? = some c := ⟨_, List.getElem?_eq_getElem hgo⟩
      obtain ⟨b, o, rfl, hbb, hcc⟩ := Buf.cell hb (by omega)
      have hcell : w1.cell? ⟨b, o + k, none⟩ = some (.int .u8 (c.toNat : Int)) := by
        rw [hcc k (by omega)]; simp [bcs, hc]
      have HC := Lib.hid hc
      have HB := Lib.hid hb
      have h0 : k = 0 ∨ 0 < k := by omega
      have hrng := byte_rng c
      clear hc hb hcc
      rcases hrng with h1 | ⟨h1, h2⟩ | ⟨h1, h2⟩ | ⟨h1, h2⟩ | ⟨h1, h2, h3⟩ | h1 | ⟨h1, h2⟩ | h1
      case inr.inl =>
        have hs := sign_digit ⟨h1, h2⟩
        have HS := Lib.hid hs
        clear hs
        have hne : ((c.toNat : Int) == 95) = false := by rw [beq_eq_false_iff_ne]; omega
        rcases h0 with h0 | h0
        · have hk0 : ((k : Int) == 0) = true := by rw [beq_iff_eq]; omega
          have hk1 : (k == 0) = true := by rw [beq_iff_eq]; omega
          have HK1 := Lib.hid hk1
          clear hk1 h0
          go_wp2_with fail
          go_ret
          exact ⟨by rw [HZ.out, nameB_bad HC.out (by rw [HS.out, HK1.out]; rfl)]; rfl, hbl⟩
        · have hk0 : ((k : Int) == 0) = false := by rw [beq_eq_false_iff_ne]; omega
          go_wp2_with fail
          go_round
          case rel => exact ⟨k + 1, by omega, by go_num, Lib.hid (signs_succ hsg.out HC.out (by rw [HS.out, show (k == 0) = false from by rw [beq_eq_false_iff_ne]; omega]; rfl))⟩
          case measure => simp [intOf]; omega
      case inr.inr.inr.inr.inr.inl =>
        have hs := sign_letter (.inr (.inr h1))
        have HS := Lib.hid hs
        have hne : ((c.toNat : Int) == 95) = true := by rw [beq_iff_eq]; omega
        clear hs h1
        have h1 : (c.toNat : Int) ≤ 95 ∧ 95 ≤ (c.toNat : Int) := by rw [beq_iff_eq] at hne; omega
        obtain ⟨h1, h2⟩ := h1
        go_wp2_with fail
        go_round
        case rel => exact ⟨k + 1, by omega, by go_num, Lib.hid (signs_succ hsg.out HC.out (HS.out _))⟩
        case measure => simp [intOf]; omega
      case inr.inr.inr.inl =>
        have hs := sign_letter (.inr (.inl ⟨h1, h2⟩))
        have HS := Lib.hid hs
        clear hs
        go_wp2_with fail
        go_round
        case rel => exact ⟨k + 1, by omega, by go_num, Lib.hid (signs_succ hsg.out HC.out (HS.out _))⟩
        case measure => simp [intOf]; omega
      case inr.inr.inr.inr.inr.inr.inl =>
        have hs := sign_letter (.inl ⟨h1, h2⟩)
        have HS := Lib.hid hs
        clear hs
        go_wp2_with fail
        go_round
        case rel => exact ⟨k + 1, by omega, by go_num, Lib.hid (signs_succ hsg.out HC.out (HS.out _))⟩
        case measure => simp [intOf]; omega
      all_goals
        have hs : ∀ f, signB f c = false := sign_other (by omega) (by omega)
        have HS := Lib.hid hs
        clear hs
        have hne : ((c.toNat : Int) == 95) = false := by rw [beq_eq_false_iff_ne]; omega
        first | (have hx : (c.toNat : Int) < 48 := (by omega)) | ((have hx : 57 < (c.toNat : Int) := (by omega)); (have hy : 48 ≤ (c.toNat : Int) := (by omega)))
        try (have hx3 : 65 ≤ (c.toNat : Int) := (by omega))
        try (have hx4 : decide ((c.toNat : Int) ≤ 90) = false := decide_eq_false (by omega))
        try (have hx5 : decide ((c.toNat : Int) ≤ 122) = false := decide_eq_false (by omega))
        rcases h0 with h0 | h0
        · have hk0 : ((k : Int) == 0) = true := by rw [beq_iff_eq]; omega
          clear h0
          go_wp2_with fail
          go_ret
          exact ⟨by rw [HZ.out, nameB_bad HC.out (HS.out _)]; rfl, hbl⟩
        · have hk0 : ((k : Int) == 0) = false := by rw [beq_eq_false_iff_ne]; omega
          go_wp2_with fail
          go_ret
          exact ⟨by rw [HZ.out, nameB_bad HC.out (HS.out _)]; rfl, hbl⟩
    · obtain rfl : k = l.length := by omega
      have hz := HZ.out
      rw [nameB_signs hsg.out] at hz
      have HZ2 := Lib.hid hz
      clear hz
      have h0 : l = [] ∨ 0 < l.length := by cases l <;> simp
      rcases h0 with rfl | h0
      · go_wp2_with fail
        go_ret
        exact ⟨by rw [HZ2.out]; rfl, hbl⟩
      · have hne : (l != []) = true := by rw [bne_iff_ne]; intro h; rw [h] at h0; exact absurd h0 (by simp)
        have he : l.isEmpty = false := by cases l; exact absurd h0 (by simp); rfl
        by_cases h40 : l.length ≤ 40
        · go_wp2_with fail
          go_ret
          exact ⟨by rw [HZ2.out, he, decide_eq_true h40, decide_eq_true (by omega)]; rfl, hbl⟩
        · go_wp2_with fail
          go_ret
          exact ⟨by rw [HZ2.out, he, decide_eq_false h40, decide_eq_false (by omega)]; rfl, hbl⟩

end Go.Proofs.YtgabmfibfikdbaaGreatDoor

/-
  Layer 14: rows of labels and samples in memory, tables of them.
-/
namespace Go.Proofs.YtgabmfibfikdbaaGreatDoor
open Go.RowKit Go.Bar Go.Bar.Leb Go.Bar.Lab Go.Bar.Xor Go.Bar.Mrg

structure Rv where
  ls : List Pr
  ss : List Sm
  la : Option Addr
  lc : Nat
  sa : Option Addr
  sc : Nat
def encR (x : Rv) : List Value := [.slice x.la x.ls.length x.lc, .slice x.sa x.ss.length x.sc]
def RAt (w : World) (x : Rv) : Prop := PsAt w (.slice x.la x.ls.length x.lc) x.ls ∧ SmsAt w (.slice x.sa x.ss.length x.sc) x.ss
theorem RAt.below {w w' : World} {x : Rv} (h : RAt w x) (hb : Below w.heap.size w w') : RAt w' x := ⟨h.1.below hb, h.2.below hb⟩

def rcs (l : List Rv) : List Value := l.flatMap encR
theorem encR_two (x : Rv) : (encR x).length = 2 := rfl
theorem rcs_app (l m : List Rv) : rcs (l ++ m) = rcs l ++ rcs m := List.flatMap_append
def plR (x : Rv) : Row := (x.ls, x.ss)
def TbAt (w : World) (v : Value) (t : List Rv) : Prop := SlAt w 2 v t.length (rcs t) ∧ ∀ x ∈ t, RAt w x
section
variable {w w' : World} {v : Value} {t : List Rv}
theorem TbAt.below (h : TbAt w v t) (hb : Below w.heap.size w w') : TbAt w' v t := ⟨h.1.below hb, fun x hx => (h.2 x hx).below hb⟩
theorem TbAt.at_ {A : Option Addr} {n c i : Nat} {x : Rv} (h : TbAt w (.slice A n c) t) (hi : t[i]? = some x) : ∃ b o, A = some ⟨b, o, none⟩ ∧ w.cell? ⟨b, o + i * 2, none⟩ = some (.slice x.la x.ls.length x.lc) ∧ w.cell? ⟨b, o + i * 2 + 1, none⟩ = some (.slice x.sa x.ss.length x.sc) ∧ RAt w x := by
  have hlt : i < t.length := (List.getElem?_eq_some_iff.1 hi).1
  obtain ⟨A', c', he, _⟩ := h.1.shape
  injection he with e1 e2 e3
  subst e1; subst e2; subst e3
  obtain ⟨b, o, rfl, hb, hc⟩ := SlAt.cells h.1 (by omega)
  have g := flat_get encR 2 encR_two t i x hi
  have g0 := hc _ _ (g 0 (by omega))
  have g1 := hc _ _ (g 1 (by omega))
  exact ⟨b, o, rfl, g0, (by rw [Nat.add_assoc]; exact g1), h.2 x (List.mem_of_getElem? hi)⟩
end
theorem TbAt.at2 {w : World} {t : List Rv} {b o n c i : Nat} {x : Rv} (h : TbAt w (.slice (some ⟨b, o, none⟩) n c) t) (hi : t[i]? = some x) : w.cell? ⟨b, o + i * 2, none⟩ = some (.slice x.la x.ls.length x.lc) ∧ w.cell? ⟨b, o + i * 2 + 1, none⟩ = some (.slice x.sa x.ss.length x.sc) ∧ RAt w x := by
  obtain ⟨b', o', he, h1, h2, h3⟩ := h.at_ hi
  injection he with he
  injection he with e1 e2 _
  subst e1; subst e2
  exact ⟨h1, h2, h3⟩

theorem mrow_ty : ElemTy Tryz.prog 56 94 (.agg #[.slice none 0 0, .slice none 0 0]) 2 48 :=
  ⟨Tryz.underlying56, info_parts (show (Tryz.prog.info? 94).map (fun i => (i.zero, i.size, i.bytes)) = some (some (.agg #[.slice none 0 0, .slice none 0 0]), 2, 48) by kernel_rfl), rfl⟩

def RTb (W w : World) (T : TypeId) (v : Value) (t : List Rv) : Prop := NBuf W w T 2 v t.length (rcs t) ∧ ∀ x ∈ t, RAt w x
section
variable {W w w' : World} {T : TypeId} {v : Value} {t : List Rv}
theorem RTb.tb (h : RTb W w T v t) : TbAt w v t := ⟨h.1.slice, h.2⟩
theorem RTb.below (h : RTb W w T v t) (hb : Below w.heap.size w w') : RTb W w' T v t := ⟨h.1.then_below hb, fun x hx => (h.2 x hx).below hb⟩
theorem RTb.after {W0 : World} (h : RTb W w T v t) (hb : Below W0.heap.size W0 W) : RTb W0 w T v t := ⟨h.1.after hb, h.2⟩
theorem TbAt.shape {w : World} {v : Value} {t : List Rv} (h : TbAt w v t) : ∃ A c, v = .slice A t.length c ∧ t.length ≤ c ∧ c ≤ maxLen := h.1.shape
end

def RetTb (w : World) (T : TypeId) (R : List Row) (e : Ending) (w' : World) : Prop := ∃ v t, e = .returned v ∧ RTb w w' T v t ∧ t.map plR = R
end Go.Proofs.YtgabmfibfikdbaaGreatDoor

/-
  Layer 6: the walks of label's Key and Check.
-/
namespace Go.Proofs.YtgabmfibfikdbaaGreatDoor
open Go.RowKit Go.Bar Go.Bar.Leb Go.Bar.Lab

set_option maxHeartbeats 4000000 in
set_option maxRecDepth 10000 in
theorem key_any (v : Value) (l : List Pr) (w : World) (h : PsAt w v l) (hl : l.length ≤ 1000) (hp : ∀ p ∈ l, p.1.length ≤ 1000000 ∧ p.2.length ≤ 1000000) :
    Calls Tryz.prog 49 #[v] w (RetBelow w (.string (bs (key l)))) := by
  obtain ⟨A, c, rfl, hlc, hcm⟩ := h.shape
  unfold maxLen at hcm
  have hu := u_len l.length (by omega)
  have hconv : IntKind.u64.wrap (l.length : Int) = (l.length : Int) := by rw [IntKind.wrap_u64]; omega
  have HCV := Lib.hid hconv
  clear hconv
  go_enter Tryz.func49, Tryz.ntmps49
  go_wp2_with fail
  refine (uint_any (.slice none 0 0) [] l.length _ (by omega) (by simp) (BBuf.nil _ _)).mono ?_
  rintro e w1 ⟨v1, rfl, h1⟩
  go_wp2_with fail
  go_loopw [12, 3] (fun i b wr => ∃ (k : Nat) (ys : List UInt8), k ≤ l.length ∧ i = .int .i64 k ∧ BApp w (.slice none 0 0) 5 [] wr b ys ∧ ys.length ≤ 10 + k * 2000020 ∧ Hid (ys = u l.length ++ (l.take k).flatMap fun p => tx p.1 ++ tx p.2)) (fun i _ _ => l.length - (intOf i).toNat)
  case atStart => exact ⟨0, _, Nat.zero_le _, rfl, h1, by omega, Lib.hid (by simp)⟩
  case round =>
    clear h1
    obtain ⟨k, ys, hk, rfl, hch, hyl, hy⟩ := hrel
    have hB := hch.nil_below
    by_cases hgo : k < l.length
    · obtain ⟨p, hpk⟩ : ∃ p, l[k]? = some p := ⟨_, List.getElem?_eq_getElem hgo⟩
      obtain ⟨b, o, rfl, hbb, g1, g2⟩ := (h.below hB).at_ hpk
      obtain ⟨hp1, hp2⟩ := hp p (List.mem_of_getElem? hpk)
      have HP := Lib.hid hpk
      clear hpk
      have t1 := text_any
      go_wp2_with fail
      clear g1 g2
      have hck := (Blk.new wr #[.string (bs p.1), .string (bs p.2)] 128).drew
      have hch := (hch.alloc (.cells #[.string (bs p.1), .string (bs p.2)] 128)).drew
      have u1 := u_len p.1.length (by omega)
      have u2 := u_len p.2.length (by omega)
      go_region_with (first
        | (go_at_call 91; ((with_reducible refine (text_any _ _ (bs p.1) _ (by rw [bs_size]; unfold maxLen; omega) (by rw [bs_size]; simp; omega) hch.buf).mono ?_); rintro e w2 ⟨v2, rfl, h2⟩; have hck2 := hck.ap hch.buf h2.ap (by decide); have hch2 := hch.trans h2; have c1 : w2.cell? ⟨wr.heap.size, 1, none⟩ = some (.string (bs p.2)) := hck2.cell (i := 1) rfl; clear h2))
        | (go_at_call 91; ((with_reducible refine (text_any _ _ (bs p.2) _ (by rw [bs_size]; unfold maxLen; omega) (by simp only [bs_size, bs_data, List.nil_append, List.length_append]; omega) hch2.buf).mono ?_); rintro e w3 ⟨v3, rfl, h3⟩; have hch3 := hch2.trans h3; clear h3)))
      all_goals
        go_wp2_with fail
        go_roundw
        case rel =>
          refine ⟨k + 1, _, by omega, by go_num, hch3, by simp only [bs_size, bs_data, List.length_append]; omega, Lib.hid ?_⟩
          rw [hy.out, List.take_add_one, HP.out]
          simp [tx, bs_size, bs_data]
        case measure => simp [intOf]; omega
    · obtain rfl : k = l.length := by omega
      have hz : ys = key l := by rw [hy.out, List.take_length]; rfl
      have hc := hch.buf.string bytes_ty 9 Tryz.underlying9
      rw [List.nil_append, hz] at hc
      clear hz hy
      go_wp2_with fail
      go_ret
      exact ⟨rfl, hB⟩

end Go.Proofs.YtgabmfibfikdbaaGreatDoor

/-
  Layer 6: the walk of label's Check.
-/
namespace Go.Proofs.YtgabmfibfikdbaaGreatDoor
open Go.RowKit Go.Bar Go.Bar.Leb Go.Bar.Lab

def errL (l : List Pr) : Int := if chk l = true then 0 else 12
theorem errL_ok {l : List Pr} (h : Ok l) : errL l = 0 := by unfold errL; rw [if_pos (chk_true h)]
theorem errL_no {l : List Pr} (h : ¬ Ok l) : errL l = 12 := by unfold errL; rw [if_neg (by rw [chk_false h]; simp)]
theorem errL_bad {l : List Pr} {k : Nat} (hk : k < l.length) (h : ¬ good l k) : errL l = 12 := errL_no fun h' => h (((ok_iff l).1 h').2.2 k hk)
theorem good_at {l : List Pr} {k : Nat} {p : Pr} (h : l[k]? = some p) : good l k ↔ okP p = true ∧ (0 < k → (l.getD (k - 1) ([], [])).1 < p.1) := by
  unfold good
  rw [show l.getD k ([], []) = p by rw [List.getD_eq_getElem?_getD, h]; rfl]
theorem okP_iff (p : Pr) : okP p = true ↔ nameB p.1 = true ∧ p.2 ≠ [] ∧ p.2.length ≤ 40 := by
  unfold okP
  simp only [Bool.and_eq_true, decide_eq_true_eq, Bool.not_eq_true', List.isEmpty_eq_false_iff]
  constructor
  · rintro ⟨⟨a, b⟩, c⟩; exact ⟨a, b, c⟩
  · rintro ⟨a, b, c⟩; exact ⟨⟨a, b⟩, c⟩

set_option maxHeartbeats 8000000 in
set_option maxRecDepth 10000 in
theorem lcheck_any (v : Value) (l : List Pr) (w : World) (h : PsAt w v l) (hp : ∀ p ∈ l, p.1.length ≤ 1000000000000) :
    Calls Tryz.prog 58 #[v] w (RetBelow w (.int .i64 (errL l))) := by
  obtain ⟨A, c, rfl, hlc, hcm⟩ := h.shape
  unfold maxLen at hcm
  obtain ⟨Z, hZ⟩ : ∃ Z, Z = errL l := ⟨_, rfl⟩
  rw [← hZ]
  have HB := Lib.hid (fun k (hk : k < l.length) (h : ¬ good l k) => hZ.trans (errL_bad hk h))
  have HN := Lib.hid (fun (h : ¬ Ok l) => hZ.trans (errL_no h))
  have HY := Lib.hid (fun (h : Ok l) => hZ.trans (errL_ok h))
  clear hZ
  by_cases h0 : l.length = 0
  · have hz := HN.out (fun h => by have := h.1; omega)
    have hb : ((l.length : Int) == 0) = true := by rw [beq_iff_eq]; omega
    subst hz
    clear h0 HB HN HY
    go_enter Tryz.func58, Tryz.ntmps58
    go_wp2_with fail
    go_ret
    exact ⟨rfl, Below.refl _ _⟩
  · have hb : ((l.length : Int) == 0) = false := by rw [beq_eq_false_iff_ne]; omega
    have h0 : 0 < l.length := by omega
    by_cases h8 : 8 < l.length
    · have hz := HN.out (fun h => by have := h.2.1; omega)
      subst hz
      clear HB HN HY
      go_enter Tryz.func58, Tryz.ntmps58
      go_wp2_with fail
      go_ret
      exact ⟨rfl, Below.refl _ _⟩
    · have h8 : decide (8 < (l.length : Int)) = false := decide_eq_false (by omega)
      go_enter Tryz.func58, Tryz.ntmps58
      go_wp2_with fail
      go_loopw [15] (fun i wr => ∃ k : Nat, k ≤ l.length ∧ i = .int .i64 k ∧ Below w.heap.size w wr ∧ Hid (∀ j, j < k → good l j)) (fun i _ => l.length - (intOf i).toNat)
      case atStart => exact ⟨0, Nat.zero_le _, rfl, Below.refl _ _, Lib.hid (fun j hj => absurd hj (Nat.not_lt_zero j))⟩
      case round =>
        obtain ⟨k, hk, rfl, hbl, hgd⟩ := hrel
        by_cases hgo : k < l.length
        · obtain ⟨p, hpk⟩ : ∃ p, l[k]? = some p := ⟨_, List.getElem?_eq_getElem hgo⟩
          obtain ⟨b, o, rfl, hbb, g1, g2⟩ := (h.below hbl).at_ hpk
          have hpl := hp p (List.mem_of_getElem? hpk)
          have HG := Lib.hid (good_at hpk)
          have hck := (Blk.new wr #[.string (bs p.1), .string (bs p.2)] 128)
          have hgn := goodName_any p.1
          have hbl2 := (below_trans hbl (below_alloc1 wr (.cells #[.string (bs p.1), .string (bs p.2)] 128)))
          rcases hn : nameB p.1 with _ | _
          · have hz := HB.out k hgo (fun h => by have := (okP_iff p).1 (HG.out.1 h).1; rw [hn] at this; exact absurd this.1 (by simp))
            rw [hn] at hgn
            have HGN := Lib.hid hgn
            have HZ := Lib.hid hz
            clear hgn hn hz hpk
            go_wp2_with fail
            refine wp_region_known [(1, .string (bs p.1)), (2, .bool false)] (by kernel_rfl) 51 (by kernel_rfl) rfl ?_
            repeat (first
              | (refine Chain.step (v := ?_) (a' := ?_) rfl rfl rfl ?_ ?_ ?_; rotate_left 2; (focus (intro w; go_simp; try with_reducible rfl)); focus (simp only [Act.put, pqA, pqS, pqZ]; try rfl))
              | (refine Chain.call (a' := ?_) _ rfl rfl rfl (fun wx hw => ?_) ?_ ?_
                 rotate_left 1
                 focus
                   first
                   | (have y0 := (hck.below hw).cell (i := 0) rfl; have y1 := (hck.below hw).cell (i := 1) rfl; go_simp; first | exact ⟨rfl, Below.refl _ _⟩ | exact Below.refl _ _)
                   | (go_simp; ((with_reducible refine (HGN.out _ hpl).mono ?_); rintro e w2 ⟨rfl, h2⟩; exact ⟨rfl, h2⟩))
                 focus (simp only [Act.put, pqA, pqS, pqZ]; try rfl))
              | (refine Chain.skip (a' := ?_) rfl rfl rfl ?_ ?_; rotate_left 1; focus (simp only [Act.put, pqA, pqS, pqZ]; try rfl)))
            refine Chain.end_ (fun wz hwz _ => ?_)
            go_wp2_with fail
            go_ret
            exact ⟨by rw [HZ.out]; rfl, below_trans hbl2 hwz⟩
          · have HN2 := Lib.hid hn
            rw [hn] at hgn
            have HGN := Lib.hid hgn
            by_cases he : p.2 = []
            · have hz := HB.out k hgo (fun h => ((okP_iff p).1 (HG.out.1 h).1).2.1 he)
              have HZ := Lib.hid hz
              have hb1 : (p.2 == []) = true := by rw [beq_iff_eq]; exact he
              have hb2 : p.2.isEmpty = true := by rw [he]; rfl
              clear hgn hn hz hpk he
              go_wp2_with fail
              refine wp_region_known [(1, .string (bs p.1)), (2, .bool true), (6, .string (bs p.2))] (by kernel_rfl) 51 (by kernel_rfl) rfl ?_
              repeat (first
                | (refine Chain.step (v := ?_) (a' := ?_) rfl rfl rfl ?_ ?_ ?_; rotate_left 2; (focus (intro w; go_simp; try with_reducible rfl)); focus (simp only [Act.put, pqA, pqS, pqZ]; try rfl))
                | (refine Chain.call (a' := ?_) _ rfl rfl rfl (fun wx hw => ?_) ?_ ?_
                   rotate_left 1
                   focus
                     first
                     | (have y0 := (hck.below hw).cell (i := 0) rfl; have y1 := (hck.below hw).cell (i := 1) rfl; go_simp; first | exact ⟨rfl, Below.refl _ _⟩ | exact Below.refl _ _)
                     | (go_simp; ((with_reducible refine (HGN.out _ hpl).mono ?_); rintro e w2 ⟨rfl, h2⟩; exact ⟨rfl, h2⟩))
                   focus (simp only [Act.put, pqA, pqS, pqZ]; try rfl))
                | (refine Chain.skip (a' := ?_) rfl rfl rfl ?_ ?_; rotate_left 1; focus (simp only [Act.put, pqA, pqS, pqZ]; try rfl)))
              refine Chain.end_ (fun wz hwz _ => ?_)
              go_wp2_with fail
              go_ret
              exact ⟨by rw [HZ.out]; rfl, below_trans hbl2 hwz⟩
            · have hb1 : (p.2 == []) = false := by rw [beq_eq_false_iff_ne]; exact he
              have hb2 : p.2.isEmpty = false := by rw [List.isEmpty_eq_false_iff]; exact he
              by_cases hl4 : p.2.length ≤ 40
              · have hd4 : decide (40 < (p.2.length : Int)) = false := decide_eq_false (by omega)
                have HOK := Lib.hid ((okP_iff p).2 ⟨hn, he, hl4⟩)
                clear hgn hn he
                rcases k with _ | j
                · have HGD := Lib.hid (show ∀ j, j < 0 + 1 → good l j from fun j hj => by
                    obtain rfl : j = 0 := by omega
                    exact HG.out.2 ⟨HOK.out, fun h => absurd h (Nat.lt_irrefl _)⟩)
                  clear hpk hgd hl4
                  simp only [Nat.zero_mul, Nat.add_zero] at g1 g2
                  go_wp2_with fail
                  refine wp_region_known [(1, .string (bs p.1)), (2, .bool true), (6, .string (bs p.2)), (11, .string (bs p.2))] (by kernel_rfl) 51 (by kernel_rfl) rfl ?_
                  repeat (first
                    | (refine Chain.step (v := ?_) (a' := ?_) rfl rfl rfl ?_ ?_ ?_; rotate_left 2; (focus (intro w; go_simp; try with_reducible rfl)); focus (simp only [Act.put, pqA, pqS, pqZ]; try rfl))
                    | (refine Chain.call (a' := ?_) _ rfl rfl rfl (fun wx hw => ?_) ?_ ?_
                       rotate_left 1
                       focus
                         first
                         | (have y0 := (hck.below hw).cell (i := 0) rfl; have y1 := (hck.below hw).cell (i := 1) rfl; go_simp; first | exact ⟨rfl, Below.refl _ _⟩ | exact Below.refl _ _)
                         | (go_simp; ((with_reducible refine (HGN.out _ hpl).mono ?_); rintro e w2 ⟨rfl, h2⟩; exact ⟨rfl, h2⟩))
                       focus (simp only [Act.put, pqA, pqS, pqZ]; try rfl))
                    | (refine Chain.skip (a' := ?_) rfl rfl rfl ?_ ?_; rotate_left 1; focus (simp only [Act.put, pqA, pqS, pqZ]; try rfl)))
                  refine Chain.end_ (fun wz hwz _ => ?_)
                  go_wp2_with fail
                  go_roundw
                  case rel => exact ⟨0 + 1, by omega, by go_num, below_trans hbl2 hwz, HGD⟩
                  case measure => simp [intOf]; omega
                · obtain ⟨q, hqk⟩ : ∃ q, l[j]? = some q := ⟨_, List.getElem?_eq_getElem (by omega)⟩
                  obtain ⟨b', o', hA, _, q1, _⟩ := (h.below hbl2).at_ hqk
                  injection hA with hA
                  injection hA with hA1 hA2 _
                  subst hA1; subst hA2
                  have HQ := Lib.hid q1
                  have hgq : (l.getD (j + 1 - 1) ([], [])).1 = q.1 := by rw [Nat.add_sub_cancel, List.getD_eq_getElem?_getD, hqk]; rfl
                  have hjw : IntKind.i64.wrap (j : Int) = (j : Int) := IntWalk.i64_in _ ⟨by omega, by omega⟩
                  have hjl : (j : Int) < (l.length : Int) := by omega
                  have hj0 : decide (0 < ((j : Int) + 1)) = true := decide_eq_true (by omega)
                  clear q1 hqk hpk
                  by_cases hlt : q.1 < p.1
                  · have hls : Op.bytesLess q.1 p.1 = true := by rw [less_eq]; exact decide_eq_true hlt
                    have HGD := Lib.hid (show ∀ i, i < j + 1 + 1 → good l i from fun i hi => by
                      by_cases hij : i < j + 1
                      · exact hgd.out i hij
                      · obtain rfl : i = j + 1 := by omega
                        exact HG.out.2 ⟨HOK.out, fun _ => by rw [hgq]; exact hlt⟩)
                    clear hgd hgq hlt hl4
                    go_wp2_with fail
                    refine wp_region_known [(1, .string (bs p.1)), (2, .bool true), (6, .string (bs p.2)), (11, .string (bs p.2)), (24, .string (bs q.1)), (26, .string (bs p.1))] (by kernel_rfl) 51 (by kernel_rfl) rfl ?_
                    repeat (first
                      | (refine Chain.step (v := ?_) (a' := ?_) rfl rfl rfl ?_ ?_ ?_; rotate_left 2; (focus (intro w; go_simp; try with_reducible rfl)); focus (simp only [Act.put, pqA, pqS, pqZ]; try rfl))
                      | (refine Chain.call (a' := ?_) _ rfl rfl rfl (fun wx hw => ?_) ?_ ?_
                         rotate_left 1
                         focus
                           first
                           | (have y0 := (hck.below hw).cell (i := 0) rfl; have y1 := (hck.below hw).cell (i := 1) rfl; have y2 := (hw.cell (p := ⟨b, o + j * 2, none⟩) (World.block_lt_of_cell? _ _ HQ.out)).trans HQ.out; go_simp; first | exact ⟨rfl, Below.refl _ _⟩ | exact Below.refl _ _)
                           | (go_simp; ((with_reducible refine (HGN.out _ hpl).mono ?_); rintro e w2 ⟨rfl, h2⟩; exact ⟨rfl, h2⟩))
                         focus (simp only [Act.put, pqA, pqS, pqZ]; try rfl))
                      | (refine Chain.skip (a' := ?_) rfl rfl rfl ?_ ?_; rotate_left 1; focus (simp only [Act.put, pqA, pqS, pqZ]; try rfl)))
                    refine Chain.end_ (fun wz hwz _ => ?_)
                    go_wp2_with fail
                    go_roundw
                    case rel => exact ⟨j + 1 + 1, by omega, by go_num, below_trans hbl2 hwz, HGD⟩
                    case measure => simp [intOf]; omega
                  · have hls : Op.bytesLess q.1 p.1 = false := by rw [less_eq]; exact decide_eq_false hlt
                    have HZ := Lib.hid (HB.out (j + 1) hgo (fun h => hlt (by have := (HG.out.1 h).2 (by omega); rwa [hgq] at this)))
                    clear hgd hgq hlt hl4
                    go_wp2_with fail
                    refine wp_region_known [(1, .string (bs p.1)), (2, .bool true), (6, .string (bs p.2)), (11, .string (bs p.2)), (24, .string (bs q.1)), (26, .string (bs p.1))] (by kernel_rfl) 51 (by kernel_rfl) rfl ?_
                    repeat (first
                      | (refine Chain.step (v := ?_) (a' := ?_) rfl rfl rfl ?_ ?_ ?_; rotate_left 2; (focus (intro w; go_simp; try with_reducible rfl)); focus (simp only [Act.put, pqA, pqS, pqZ]; try rfl))
                      | (refine Chain.call (a' := ?_) _ rfl rfl rfl (fun wx hw => ?_) ?_ ?_
                         rotate_left 1
                         focus
                           first
                           | (have y0 := (hck.below hw).cell (i := 0) rfl; have y1 := (hck.below hw).cell (i := 1) rfl; have y2 := (hw.cell (p := ⟨b, o + j * 2, none⟩) (World.block_lt_of_cell? _ _ HQ.out)).trans HQ.out; go_simp; first | exact ⟨rfl, Below.refl _ _⟩ | exact Below.refl _ _)
                           | (go_simp; ((with_reducible refine (HGN.out _ hpl).mono ?_); rintro e w2 ⟨rfl, h2⟩; exact ⟨rfl, h2⟩))
                         focus (simp only [Act.put, pqA, pqS, pqZ]; try rfl))
                      | (refine Chain.skip (a' := ?_) rfl rfl rfl ?_ ?_; rotate_left 1; focus (simp only [Act.put, pqA, pqS, pqZ]; try rfl)))
                    refine Chain.end_ (fun wz hwz _ => ?_)
                    go_wp2_with fail
                    go_ret
                    exact ⟨by rw [HZ.out]; rfl, below_trans hbl2 hwz⟩
              · have hd4 : decide (40 < (p.2.length : Int)) = true := decide_eq_true (by omega)
                have HZ := Lib.hid (HB.out k hgo (fun h => hl4 ((okP_iff p).1 (HG.out.1 h).1).2.2))
                clear hgn hn hpk he hl4
                go_wp2_with fail
                refine wp_region_known [(1, .string (bs p.1)), (2, .bool true), (6, .string (bs p.2)), (11, .string (bs p.2))] (by kernel_rfl) 51 (by kernel_rfl) rfl ?_
                repeat (first
                  | (refine Chain.step (v := ?_) (a' := ?_) rfl rfl rfl ?_ ?_ ?_; rotate_left 2; (focus (intro w; go_simp; try with_reducible rfl)); focus (simp only [Act.put, pqA, pqS, pqZ]; try rfl))
                  | (refine Chain.call (a' := ?_) _ rfl rfl rfl (fun wx hw => ?_) ?_ ?_
                     rotate_left 1
                     focus
                       first
                       | (have y0 := (hck.below hw).cell (i := 0) rfl; have y1 := (hck.below hw).cell (i := 1) rfl; go_simp; first | exact ⟨rfl, Below.refl _ _⟩ | exact Below.refl _ _)
                       | (go_simp; ((with_reducible refine (HGN.out _ hpl).mono ?_); rintro e w2 ⟨rfl, h2⟩; exact ⟨rfl, h2⟩))
                     focus (simp only [Act.put, pqA, pqS, pqZ]; try rfl))
                  | (refine Chain.skip (a' := ?_) rfl rfl rfl ?_ ?_; rotate_left 1; focus (simp only [Act.put, pqA, pqS, pqZ]; try rfl)))
                refine Chain.end_ (fun wz hwz _ => ?_)
                go_wp2_with fail
                go_ret
                exact ⟨by rw [HZ.out]; rfl, below_trans hbl2 hwz⟩
        · obtain rfl : k = l.length := by omega
          have HZ := Lib.hid (HY.out ((ok_iff l).2 ⟨h0, by have := of_decide_eq_false h8; omega, hgd.out⟩))
          go_wp2_with fail
          go_ret
          exact ⟨by rw [HZ.out]; rfl, hbl⟩

end Go.Proofs.YtgabmfibfikdbaaGreatDoor

/-
  DERIVED: THE SHELF's CONTRACTS AT THIS DUMP, IN PLAIN WORDS (tools/lay-plain.mjs out of 'TryzShelf.lean', which tools/lay-shelf.mjs wrote): THE SAME DECLARATIONS UNDER THE SAME NAMES: 'import', 'namespace', 'open', 'def', 'theorem' AND NOTHING ELSE: no command of the shelf's: FOR A HAND-IN. Each laying: the table of numbers ('.._ren') and one theorem, a field a fact of the dump's own or the kernel's comparison; each contract: ONE APPLICATION.
-/
namespace Go.Proofs
open Go.Shelf
def Tryz.lays125_ren : Go.Shelf.Ren := ⟨fun | 125 => 152 | 128 => 167 | 129 => 168 | n => n, fun | 46 => 158 | 3 => 3 | 51 => 84 | 53 => 39 | 4 => 4 | 5 => 5 | 9 => 9 | n => n, fun | n => n⟩
theorem Tryz.lays125 : Go.Proofs.Lays.n125 Tryz.prog Tryz.lays125_ren := {
  mixed := by kernel_rfl
  f125 := Tryz.func152.trans (congrArg some (by kernel_rfl))
  f128 := Tryz.func167.trans (congrArg some (by kernel_rfl))
  f129 := Tryz.func168.trans (congrArg some (by kernel_rfl))
  t3 := Tryz.underlying3
  a3 := Tryz.isAgg3
  z3 := Tryz.sizeOf3
  v3 := Tryz.zeroValue3
  t4 := Tryz.underlying4
  a4 := Tryz.isAgg4
  z4 := Tryz.sizeOf4
  v4 := Tryz.zeroValue4
  t5 := Tryz.underlying5
  a5 := Tryz.isAgg5
  z5 := Tryz.sizeOf5
  v5 := Tryz.zeroValue5
  t9 := Tryz.underlying9
  a9 := Tryz.isAgg9
  z9 := Tryz.sizeOf9
  v9 := Tryz.zeroValue9
  t46 := Tryz.underlying158
  a46 := Tryz.isAgg158
  z46 := Tryz.sizeOf158
  v46 := Tryz.zeroValue158
  t51 := Tryz.underlying84
  a51 := Tryz.isAgg84
  z51 := Tryz.sizeOf84
  v51 := Tryz.zeroValue84
  t53 := Tryz.underlying39
  a53 := Tryz.isAgg39
  z53 := Tryz.sizeOf39
  v53 := Tryz.zeroValue39 }
theorem Tryz.bits_Len (x : Int) (w : World) (h0 : 0 ≤ x) (h1 : x ≤ 18446744073709551615) :
    Calls Tryz.prog 152 #[.int .u64 x] w fun e w' => e = .returned (.int .i64 (Lib.bitLen x.toNat)) ∧ w' = w := Any.bits_Len Tryz.lays125 x w h0 h1
def Tryz.lays213_ren : Go.Shelf.Ren := ⟨fun | 213 => 101 | 265 => 120 | n => n, fun | 9 => 9 | 3 => 3 | n => n, fun | n => n⟩
def Tryz.lays106_ren : Go.Shelf.Ren := ⟨fun | 106 => 79 | 213 => 101 | 265 => 120 | n => n, fun | 9 => 9 | 3 => 3 | n => n, fun | n => n⟩
theorem Tryz.lays106 : Go.Proofs.Lays.n106 Tryz.prog Tryz.lays106_ren := {
  mixed := by kernel_rfl
  f106 := Tryz.func79.trans (congrArg some (by kernel_rfl))
  f213 := Tryz.func101.trans (congrArg some (by kernel_rfl))
  f265 := Tryz.func120.trans (congrArg some (by kernel_rfl))
  t3 := Tryz.underlying3
  a3 := Tryz.isAgg3
  z3 := Tryz.sizeOf3
  v3 := Tryz.zeroValue3
  t9 := Tryz.underlying9
  a9 := Tryz.isAgg9
  z9 := Tryz.sizeOf9
  v9 := Tryz.zeroValue9 }
open Go.RowKit in
theorem Tryz.strings_Compare (a b : ByteArray) (w : World) :
    Calls Tryz.prog 79 #[.string a, .string b] w fun e w' => e = .returned (.int .i64 (Lib.compareBytes a.data.toList b.data.toList)) ∧ w' = w := Any.strings_Compare Tryz.lays106 a b w
def Tryz.lays219_ren : Go.Shelf.Ren := ⟨fun | 219 => 150 | 217 => 154 | 225 => 156 | 224 => 157 | 267 => 158 | 266 => 169 | 314 => 170 | n => n, fun | 9 => 9 | 3 => 3 | 4 => 4 | 5 => 5 | 46 => 158 | 146 => 261 | 51 => 84 | n => n, fun | 1 => 0 | n => n⟩
theorem Tryz.lays219 : Go.Proofs.Lays.n219 Tryz.prog Tryz.lays219_ren := {
  mixed := by kernel_rfl
  f217 := Tryz.func154.trans (congrArg some (by kernel_rfl))
  f219 := Tryz.func150.trans (congrArg some (by kernel_rfl))
  f224 := Tryz.func157.trans (congrArg some (by kernel_rfl))
  f225 := Tryz.func156.trans (congrArg some (by kernel_rfl))
  f266 := Tryz.func169.trans (congrArg some (by kernel_rfl))
  f267 := Tryz.func158.trans (congrArg some (by kernel_rfl))
  f314 := Tryz.func170.trans (congrArg some (by kernel_rfl))
  t3 := Tryz.underlying3
  a3 := Tryz.isAgg3
  z3 := Tryz.sizeOf3
  v3 := Tryz.zeroValue3
  t4 := Tryz.underlying4
  a4 := Tryz.isAgg4
  z4 := Tryz.sizeOf4
  v4 := Tryz.zeroValue4
  t5 := Tryz.underlying5
  a5 := Tryz.isAgg5
  z5 := Tryz.sizeOf5
  v5 := Tryz.zeroValue5
  t9 := Tryz.underlying9
  a9 := Tryz.isAgg9
  z9 := Tryz.sizeOf9
  v9 := Tryz.zeroValue9
  t46 := Tryz.underlying158
  a46 := Tryz.isAgg158
  z46 := Tryz.sizeOf158
  v46 := Tryz.zeroValue158
  t51 := Tryz.underlying84
  a51 := Tryz.isAgg84
  z51 := Tryz.sizeOf84
  v51 := Tryz.zeroValue84
  t146 := Tryz.underlying261
  a146 := Tryz.isAgg261
  z146 := Tryz.sizeOf261
  v146 := Tryz.zeroValue261
  g1 := by kernel_rfl }
open Go.RowKit Go.Lib in
theorem Tryz.stringslite_Index_one (s : ByteArray) (c : UInt8) (w : World) :
    Calls Tryz.prog 150 #[.string s, .string ⟨#[c]⟩] w fun e w' => e = .returned (.int .i64 (Lib.indexByte s.data.toList c)) ∧ w' = w := Any.stringslite_Index_one Tryz.lays219 s c w
def Tryz.lays143_ren : Go.Shelf.Ren := ⟨fun | 143 => 149 | 219 => 150 | 217 => 154 | 225 => 156 | 224 => 157 | 267 => 158 | 266 => 169 | 314 => 170 | n => n, fun | 9 => 9 | 3 => 3 | 4 => 4 | 5 => 5 | 46 => 158 | 146 => 261 | 51 => 84 | n => n, fun | 1 => 0 | n => n⟩
theorem Tryz.lays143 : Go.Proofs.Lays.n143 Tryz.prog Tryz.lays143_ren := {
  mixed := by kernel_rfl
  f143 := Tryz.func149.trans (congrArg some (by kernel_rfl))
  f217 := Tryz.func154.trans (congrArg some (by kernel_rfl))
  f219 := Tryz.func150.trans (congrArg some (by kernel_rfl))
  f224 := Tryz.func157.trans (congrArg some (by kernel_rfl))
  f225 := Tryz.func156.trans (congrArg some (by kernel_rfl))
  f266 := Tryz.func169.trans (congrArg some (by kernel_rfl))
  f267 := Tryz.func158.trans (congrArg some (by kernel_rfl))
  f314 := Tryz.func170.trans (congrArg some (by kernel_rfl))
  t3 := Tryz.underlying3
  a3 := Tryz.isAgg3
  z3 := Tryz.sizeOf3
  v3 := Tryz.zeroValue3
  t4 := Tryz.underlying4
  a4 := Tryz.isAgg4
  z4 := Tryz.sizeOf4
  v4 := Tryz.zeroValue4
  t5 := Tryz.underlying5
  a5 := Tryz.isAgg5
  z5 := Tryz.sizeOf5
  v5 := Tryz.zeroValue5
  t9 := Tryz.underlying9
  a9 := Tryz.isAgg9
  z9 := Tryz.sizeOf9
  v9 := Tryz.zeroValue9
  t46 := Tryz.underlying158
  a46 := Tryz.isAgg158
  z46 := Tryz.sizeOf158
  v46 := Tryz.zeroValue158
  t51 := Tryz.underlying84
  a51 := Tryz.isAgg84
  z51 := Tryz.sizeOf84
  v51 := Tryz.zeroValue84
  t146 := Tryz.underlying261
  a146 := Tryz.isAgg261
  z146 := Tryz.sizeOf261
  v146 := Tryz.zeroValue261
  g1 := by kernel_rfl }
open Go.RowKit Go.Lib in
theorem Tryz.strings_Index_one (s : ByteArray) (c : UInt8) (w : World) :
    Calls Tryz.prog 149 #[.string s, .string ⟨#[c]⟩] w fun e w' => e = .returned (.int .i64 (Lib.indexByte s.data.toList c)) ∧ w' = w := Any.strings_Index_one Tryz.lays143 s c w
def Tryz.pdqP_ren : Go.Shelf.Ren := ⟨fun | 14 => 151 | 20 => 159 | 21 => 160 | 22 => 161 | 23 => 162 | 24 => 163 | 25 => 164 | 26 => 165 | 27 => 166 | 46 => 171 | 47 => 172 | 48 => 173 | 49 => 174 | 50 => 175 | 15 => 152 | 57 => 176 | 28 => 167 | 29 => 168 | n => n, fun | 24 => 128 | 22 => 22 | 3 => 3 | 25 => 166 | 4 => 4 | 0 => 0 | 46 => 251 | 45 => 250 | 50 => 227 | 66 => 263 | 39 => 158 | 55 => 39 | 70 => 267 | 76 => 269 | 77 => 270 | 53 => 84 | 5 => 5 | 9 => 9 | n => n, fun | n => n⟩
theorem Tryz.pdqP : Go.Proofs.SlLaysF0.n14 Tryz.prog Tryz.pdqP_ren := {
  mixed := by kernel_rfl
  f14 := ⟨Tryz.f151.name, by decide, Tryz.func151.trans (congrArg some (by kernel_rfl))⟩
  f15 := Tryz.func152.trans (congrArg some (by kernel_rfl))
  f20 := ⟨Tryz.f159.name, by decide, Tryz.func159.trans (congrArg some (by kernel_rfl))⟩
  f21 := ⟨Tryz.f160.name, by decide, Tryz.func160.trans (congrArg some (by kernel_rfl))⟩
  f22 := ⟨Tryz.f161.name, by decide, Tryz.func161.trans (congrArg some (by kernel_rfl))⟩
  f23 := ⟨Tryz.f162.name, by decide, Tryz.func162.trans (congrArg some (by kernel_rfl))⟩
  f24 := ⟨Tryz.f163.name, by decide, Tryz.func163.trans (congrArg some (by kernel_rfl))⟩
  f25 := ⟨Tryz.f164.name, by decide, Tryz.func164.trans (congrArg some (by kernel_rfl))⟩
  f26 := ⟨Tryz.f165.name, by decide, Tryz.func165.trans (congrArg some (by kernel_rfl))⟩
  f27 := ⟨Tryz.f166.name, by decide, Tryz.func166.trans (congrArg some (by kernel_rfl))⟩
  f28 := Tryz.func167.trans (congrArg some (by kernel_rfl))
  f29 := Tryz.func168.trans (congrArg some (by kernel_rfl))
  f46 := ⟨Tryz.f171.name, by decide, Tryz.func171.trans (congrArg some (by kernel_rfl))⟩
  f47 := Tryz.func172.trans (congrArg some (by kernel_rfl))
  f48 := Tryz.func173.trans (congrArg some (by kernel_rfl))
  f49 := ⟨Tryz.f174.name, by decide, Tryz.func174.trans (congrArg some (by kernel_rfl))⟩
  f50 := ⟨Tryz.f175.name, by decide, Tryz.func175.trans (congrArg some (by kernel_rfl))⟩
  f57 := ⟨Tryz.f176.name, by decide, Tryz.func176.trans (congrArg some (by kernel_rfl))⟩
  t0 := Tryz.underlying0
  a0 := Tryz.isAgg0
  z0 := Tryz.sizeOf0
  v0 := Tryz.zeroValue0
  t3 := Tryz.underlying3
  a3 := Tryz.isAgg3
  z3 := Tryz.sizeOf3
  v3 := Tryz.zeroValue3
  t4 := Tryz.underlying4
  a4 := Tryz.isAgg4
  z4 := Tryz.sizeOf4
  v4 := Tryz.zeroValue4
  t5 := Tryz.underlying5
  a5 := Tryz.isAgg5
  z5 := Tryz.sizeOf5
  v5 := Tryz.zeroValue5
  t9 := Tryz.underlying9
  a9 := Tryz.isAgg9
  z9 := Tryz.sizeOf9
  v9 := Tryz.zeroValue9
  t22 := Tryz.underlying22
  a22 := Tryz.isAgg22
  z22 := Tryz.sizeOf22
  v22 := Tryz.zeroValue22
  t25 := Tryz.underlying166
  a25 := Tryz.isAgg166
  z25 := Tryz.sizeOf166
  v25 := Tryz.zeroValue166
  t39 := Tryz.underlying158
  a39 := Tryz.isAgg158
  z39 := Tryz.sizeOf158
  v39 := Tryz.zeroValue158
  t45 := Tryz.underlying250
  a45 := Tryz.isAgg250
  z45 := Tryz.sizeOf250
  v45 := Tryz.zeroValue250
  t46 := Tryz.underlying251
  a46 := Tryz.isAgg251
  z46 := Tryz.sizeOf251
  v46 := Tryz.zeroValue251
  t50 := Tryz.underlying227
  a50 := Tryz.isAgg227
  z50 := Tryz.sizeOf227
  v50 := Tryz.zeroValue227
  t53 := Tryz.underlying84
  a53 := Tryz.isAgg84
  z53 := Tryz.sizeOf84
  v53 := Tryz.zeroValue84
  t55 := Tryz.underlying39
  a55 := Tryz.isAgg39
  z55 := Tryz.sizeOf39
  v55 := Tryz.zeroValue39
  t66 := Tryz.underlying263
  a66 := Tryz.isAgg263
  z66 := Tryz.sizeOf263
  v66 := Tryz.zeroValue263
  t70 := Tryz.underlying267
  a70 := Tryz.isAgg267
  z70 := Tryz.sizeOf267
  v70 := Tryz.zeroValue267
  t76 := Tryz.underlying269
  a76 := Tryz.isAgg269
  z76 := Tryz.sizeOf269
  v76 := Tryz.zeroValue269
  t77 := Tryz.underlying270
  a77 := Tryz.isAgg270
  z77 := Tryz.sizeOf270
  v77 := Tryz.zeroValue270 }
end Go.Proofs
