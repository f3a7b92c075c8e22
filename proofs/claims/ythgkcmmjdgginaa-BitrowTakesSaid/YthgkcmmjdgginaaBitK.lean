/-
  Layer 3: the walk of the law's take.
-/
import Derived.Test.YthgkcmmjdgginaaBitO
import Derived.Test.YthgkcmmjdgginaaBitQ
import Derived.OwnWalk
namespace Go.Proofs.Ythgkcmmjdgginaa
open Go.RowKit Go.Bar Go.Bar.Bit

theorem BoolsIn.keep {S : Nat → Nat → Prop} {w w' : World} {v : Value} {l : List Bool} (h : BoolsIn w v l) (hf : Fr S w w') (hS : ∀ k i, v.ownBlock = some k → ¬ S k i) : BoolsIn w' v l := by
  refine ⟨h.shape, fun i x hi => ?_⟩
  obtain ⟨b, o, c, hv, hc⟩ := h.cells i x hi
  exact ⟨b, o, c, hv, hf.cell hc (hS _ _ (by rw [hv]; rfl))⟩
theorem BoolsIn.none {w : World} {l : List Bool} (h : l = []) (A : Option Addr) (c : Nat) : BoolsIn w (.slice A 0 c) l := by
  subst h
  exact ⟨⟨A, c, rfl, Nat.zero_le _⟩, fun i x hi => by simp at hi⟩
theorem BoolsIn.sub {w : World} {A : Option Addr} {c : Nat} {L : List Bool} (h : BoolsIn w (.slice A L.length c) L) (p k : Nat) (hpk : p + k ≤ L.length) : BoolsIn w (.slice (A.map fun x => x.add p) k (c - p)) ((L.drop p).take k) := by
  have hl : ((L.drop p).take k).length = k := by rw [List.length_take, List.length_drop]; omega
  obtain ⟨A', c', he, hcap⟩ := h.shape
  injection he with e1 e2 e3
  subst e1; subst e3
  refine ⟨⟨_, _, by rw [hl], by omega⟩, fun i x hi => ?_⟩
  have hik : i < k := by rw [← hl]; exact (List.getElem?_eq_some_iff.1 hi).1
  rw [List.getElem?_take_of_lt hik, List.getElem?_drop] at hi
  obtain ⟨b, o, c', he, hc⟩ := h.cells (p + i) x hi
  injection he with e1 e2 e3
  subst e1; subst e3
  refine ⟨b, o + p, c - p, ?_, by rw [Nat.add_assoc]; exact hc⟩
  rw [hl]
  simp only [Option.map_some]
  rw [add_at]
theorem refNumber_of (v : Value) (l : List Bool) (r : Nat) (hr : r = num l) (W : World) (hn : l.length ≤ 64) (hb : BoolsIn W v l) :
    Calls Try.prog 30 #[v] W fun e w' => e = .returned (.int .u64 (r : Int)) ∧ w' = W := by
  subst hr
  exact refNumber_any v l W hn hb
/-- a thing has been taken: it was right; the place behind it, an error -/
def TakeTo (w : World) (be : Nat) (L : List Bool) (e : Ending) (w' : World) : Prop :=
  ∃ p' e' at' : Nat, e = .returned (.tuple #[.bool true, .int .i64 at', .bool (e' == 2)]) ∧ (e' = 0 ∧ at' = p' ∨ e' = 2) ∧ EyeAt w' be 0 L p' e' ∧ Fr (EyeS be 0) w w'

/-- the state after the box: the eye, the bits, the box -/
structure TakeAt (w0 w : World) (be : Nat) (L : List Bool) (p e : Nat) (v : Value) (cs : Array Value) : Prop where
  eye : EyeAt w be 0 L p e
  all : BoolsIn w v L
  box : ∀ (i : Nat) (x : Value), cs[i]? = some x → w.cell? ⟨w0.heap.size, i, none⟩ = some x
  fr : Fr (EyeS be 0) w0 w
  own : v.ownBlock ≠ some be
  new : be < w0.heap.size
theorem TakeAt.start {w : World} {be p : Nat} {L : List Bool} {v : Value} (h : EyeAt w be 0 L p 0) (hv : BoolsIn w v L) (ho : v.ownBlock ≠ some be) (cs : Array Value) (t : TypeId) : TakeAt w (w.alloc (.cells cs t)) be L p 0 v cs := by
  have hf : Fr (EyeS be 0) w (w.alloc (.cells cs t)) := (Fr.refl _ _).alloc _
  have hf0 : Fr (fun _ _ => False) w (w.alloc (.cells cs t)) := (Fr.refl _ _).alloc _
  have hb := World.block_lt_of_cell? _ _ h.c1
  exact ⟨h.keep hf0 (fun _ _ _ => id), hv.keep hf0 (fun _ _ _ => id), fun i x hx => by rw [World.cell?_alloc_new]; exact hx, hf, ho, hb⟩
theorem TakeAt.step {w0 w w' : World} {be p e p' e' : Nat} {L : List Bool} {v x : Value} {cs : Array Value} (h : TakeAt w0 w be L p e v cs) {en : Ending} (h' : EyeTo w be 0 L x p' e' en w') : en = .returned x ∧ TakeAt w0 w' be L p' e' v cs := by
  obtain ⟨he, ha, hf⟩ := h'
  refine ⟨he, ha, h.all.keep hf ?_, fun i y hy => hf.cell (h.box i y hy) ?_, h.fr.trans hf, h.own, h.new⟩
  · rintro k i hk ⟨e1, _⟩; exact h.own (by rw [hk, e1])
  · rintro ⟨e1, _⟩; have := h.new; omega

theorem eyeBit_end_ (L : List Bool) (p : Nat) (h : L.length ≤ p) : eyeBit L p 0 = (false, p, 2) := by
  unfold eyeBit
  rw [if_neg (by omega), if_neg (by omega)]
theorem eyeBit_in_ (L : List Bool) (p : Nat) (x : Bool) (h : L[p]? = some x) : eyeBit L p 0 = (x, p + 1, 0) := by
  unfold eyeBit
  rw [if_neg (by omega), if_pos (List.getElem?_eq_some_iff.1 h).1, List.getD_eq_getElem?_getD, h]
  rfl

set_option maxHeartbeats 1000000 in
set_option maxRecDepth 10000 in
theorem take_1 (n m : Int) (u : Nat) (is : Bool) (be : Nat) (v : Value) (L : List Bool) (p : Nat) (w : World) (h : EyeAt w be 0 L p 0) (hv : BoolsIn w v L) (ho : v.ownBlock ≠ some be) (hn : L.length < 1000000000) :
    Calls Try.prog 21 #[.pointer (some ⟨be, 0, none⟩), v, .int .i64 p, (Th.mk 1 n m u is).val] w (TakeTo w be L) := by
  simp only [Th.val]
  have h0 := TakeAt.start h hv ho #[.int .i64 1, .int .i64 n, .int .i64 m, .int .u64 u, .bool is] 32
  have hle := h.le
  obtain ⟨A, c, rfl, hcap⟩ := hv.shape
  clear h hv
  rcases Nat.lt_or_ge p L.length with hlt | hge
  · obtain ⟨x, hx⟩ : ∃ x, L[p]? = some x := ⟨_, List.getElem?_eq_getElem hlt⟩
    have hb := eyeBit_in_ L p x hx
    have HB := Lib.hid hb
    have HX := Lib.hid hx
    clear hb hx
    go_enter Try.func21, Try.ntmps21
    go_wp2_with fail
    refine (eyeBit_any be 0 L p 0 _ h0.eye (by omega)).mono ?_
    rintro e w1 g1
    obtain ⟨rfl, h1⟩ := h0.step g1
    rw [HB.out] at h1 ⊢
    simp only [] at h1
    clear g1 h0
    obtain ⟨b1, o1, c1, he, hc1⟩ := h1.all.cells p x HX.out
    injection he with e1 e2 e3
    subst e1; subst e3
    cases x
    all_goals
      go_wp2_with fail
      go_ret3
      exact ⟨p + 1, 0, p + 1, by go_num, .inl ⟨rfl, rfl⟩, h1.eye, h1.fr⟩
  · have hb := eyeBit_end_ L p hge
    have HB := Lib.hid hb
    clear hb
    go_enter Try.func21, Try.ntmps21
    go_wp2_with fail
    refine (eyeBit_any be 0 L p 0 _ h0.eye (by omega)).mono ?_
    rintro e w1 g1
    obtain ⟨rfl, h1⟩ := h0.step g1
    rw [HB.out] at h1 ⊢
    simp only [] at h1
    clear g1 h0
    go_wp2_with fail
    go_ret3
    exact ⟨p, 2, p, by go_num, .inr rfl, h1.eye, h1.fr⟩

theorem eyeBits_end_ (L : List Bool) (p : Nat) (n : Int) (h : L.length - p < clip n) : eyeBits L p 0 n = (0, p, 2) := by
  unfold eyeBits
  rw [if_neg (by omega), if_pos h]
theorem eyeBits_in_ (L : List Bool) (p : Nat) (n : Int) (h : clip n ≤ L.length - p) : eyeBits L p 0 n = (num ((L.drop p).take (clip n)), p + clip n, 0) := by
  unfold eyeBits
  rw [if_neg (by omega), if_neg (by omega)]

set_option maxHeartbeats 1000000 in
set_option maxRecDepth 10000 in
theorem take_2e (n m : Int) (u : Nat) (is : Bool) (be : Nat) (v : Value) (L : List Bool) (p : Nat) (w : World) (h : EyeAt w be 0 L p 0) (hv : BoolsIn w v L) (ho : v.ownBlock ≠ some be) (hn : L.length < 1000000000) (hn1 : -9223372036854775808 ≤ n) (hn2 : n ≤ 9223372036854775807)
    (hlt : L.length - p < clip n) :
    Calls Try.prog 21 #[.pointer (some ⟨be, 0, none⟩), v, .int .i64 p, (Th.mk 2 n m u is).val] w (TakeTo w be L) := by
  simp only [Th.val]
  have h0 := TakeAt.start h hv ho #[.int .i64 2, .int .i64 n, .int .i64 m, .int .u64 u, .bool is] 32
  have hle := h.le
  obtain ⟨A, c, rfl, hcap⟩ := hv.shape
  clear h hv
  have hb := eyeBits_end_ L p n hlt
  have HB := Lib.hid hb
  have hc0 : 0 < n := by unfold clip at hlt; omega
  have hc1 : (L.length : Int) - p < n := by unfold clip at hlt; omega
  have hc2 : (L.length : Int) - p < 64 := by unfold clip at hlt; omega
  clear hb hlt
  rcases Int.lt_or_le 64 n with hn6 | hn6
  all_goals
    go_enter Try.func21, Try.ntmps21
    go_wp2_with fail
    refine (eyeBits_any be 0 L p 0 n _ h0.eye (by omega) hn1 hn2).mono ?_
    rintro e w1 g1
    obtain ⟨rfl, h1⟩ := h0.step g1
    rw [HB.out] at h1 ⊢
    simp only [] at h1
    clear g1 h0
    go_wp2_with fail
    go_ret3
    exact ⟨p, 2, p, by go_num, .inr rfl, h1.eye, h1.fr⟩

set_option maxHeartbeats 1000000 in
set_option maxRecDepth 10000 in
theorem take_2 (n m : Int) (u : Nat) (is : Bool) (be : Nat) (v : Value) (L : List Bool) (p : Nat) (w : World) (h : EyeAt w be 0 L p 0) (hv : BoolsIn w v L) (ho : v.ownBlock ≠ some be) (hn : L.length < 1000000000) (hn1 : -9223372036854775808 ≤ n) (hn2 : n ≤ 9223372036854775807)
    (hlt : clip n ≤ L.length - p) :
    Calls Try.prog 21 #[.pointer (some ⟨be, 0, none⟩), v, .int .i64 p, (Th.mk 2 n m u is).val] w (TakeTo w be L) := by
  simp only [Th.val]
  have h0 := TakeAt.start h hv ho #[.int .i64 2, .int .i64 n, .int .i64 m, .int .u64 u, .bool is] 32
  have hle := h.le
  obtain ⟨A, c, rfl, hcap⟩ := hv.shape
  clear h hv
  have hb := eyeBits_in_ L p n hlt
  have hcl : (clip n : Int) ≤ (L.length : Int) - p := by omega
  rcases Int.lt_or_le n 0 with hn0 | hn0
  · clear hcl
    obtain ⟨r, hr⟩ : ∃ r, r = num ((L.drop p).take (clip n)) := ⟨_, rfl⟩
    rw [← hr] at hb
    have HB := Lib.hid hb
    have hll : ((L.drop p).take (clip n)).length ≤ 64 := Nat.le_trans (List.length_take_le _ _) (clip_le _)
    obtain ⟨l', hl'⟩ : ∃ l', l' = (L.drop p).take (clip n) := ⟨_, rfl⟩
    rw [← hl'] at hr hll
    have HR := Lib.hid hr
    have HL := Lib.hid hl'
    have hk : clip n = 0 := by unfold clip; omega
    have HS0 : ∀ w1, BoolsIn w1 (.slice A L.length c) L → BoolsIn w1 (.slice (A.map fun x => x.add p) 0 (c - p)) l' ∧ (c = p → BoolsIn w1 (.slice A 0 0) l') := (by
      intro w1 h1
      rw [HL.out, hk]
      refine ⟨h1.sub p 0 (by omega), fun hcp => ?_⟩
      exact BoolsIn.none (by rw [List.take_zero]) _ _)
    have HS := Lib.hid HS0
    have HK := Lib.hid hk
    clear hb hr hl' hlt HS0 hk
    go_enter Try.func21, Try.ntmps21
    go_wp2_with fail
    refine (eyeBits_any be 0 L p 0 n _ h0.eye (by omega) hn1 hn2).mono ?_
    rintro e w1 g1
    obtain ⟨rfl, h1⟩ := h0.step g1
    rw [HB.out] at h1 ⊢
    simp only [] at h1
    clear g1 h0
    obtain ⟨hs1, hs2⟩ := HS.out w1 h1.all
    have HS1 := Lib.hid hs1
    have HS2 := Lib.hid hs2
    clear hs1 hs2 HS
    go_wp2_with fail
    all_goals
      refine (refNumber_of _ l' r HR.out _ hll (by first | exact HS1.out | exact HS2.out (by omega))).mono ?_
      rintro e w2 ⟨rfl, rfl⟩
      go_wp2_with fail
      go_ret3
      exact ⟨_, 0, _, by rw [HK.out]; go_num, .inl ⟨rfl, rfl⟩, h1.eye, h1.fr⟩
  · rcases Int.lt_or_le 64 n with hn6 | hn6
    · have hcn : (64 : Int) ≤ (L.length : Int) - p := by unfold clip at hcl; omega
      obtain ⟨r, hr⟩ : ∃ r, r = num ((L.drop p).take (clip n)) := ⟨_, rfl⟩
      rw [← hr] at hb
      have HB := Lib.hid hb
      have hll : ((L.drop p).take (clip n)).length ≤ 64 := Nat.le_trans (List.length_take_le _ _) (clip_le _)
      obtain ⟨l', hl'⟩ : ∃ l', l' = (L.drop p).take (clip n) := ⟨_, rfl⟩
      rw [← hl'] at hr hll
      have HR := Lib.hid hr
      have HL := Lib.hid hl'
      have hk : clip n = 64 := by unfold clip; omega
      have HS0 : ∀ w1, BoolsIn w1 (.slice A L.length c) L → BoolsIn w1 (.slice (A.map fun x => x.add p) 64 (c - p)) l' ∧ (c = p → BoolsIn w1 (.slice A 64 0) l') := (by
        intro w1 h1
        rw [HL.out, hk]
        refine ⟨h1.sub p 64 (by omega), fun hcp => ?_⟩
        exfalso; omega)
      have HS := Lib.hid HS0
      have HK := Lib.hid hk
      clear hb hr hl' hlt HS0 hk
      go_enter Try.func21, Try.ntmps21
      go_wp2_with fail
      refine (eyeBits_any be 0 L p 0 n _ h0.eye (by omega) hn1 hn2).mono ?_
      rintro e w1 g1
      obtain ⟨rfl, h1⟩ := h0.step g1
      rw [HB.out] at h1 ⊢
      simp only [] at h1
      clear g1 h0
      obtain ⟨hs1, hs2⟩ := HS.out w1 h1.all
      have HS1 := Lib.hid hs1
      have HS2 := Lib.hid hs2
      clear hs1 hs2 HS
      go_wp2_with fail
      all_goals
        refine (refNumber_of _ l' r HR.out _ hll (by first | exact HS1.out | exact HS2.out (by omega))).mono ?_
        rintro e w2 ⟨rfl, rfl⟩
        go_wp2_with fail
        go_ret3
        exact ⟨_, 0, _, by rw [HK.out]; go_num, .inl ⟨rfl, rfl⟩, h1.eye, h1.fr⟩
    · obtain ⟨a, rfl⟩ : ∃ a : Nat, n = (a : Int) := ⟨n.toNat, by omega⟩
      have hcn : (a : Int) ≤ (L.length : Int) - p := by unfold clip at hcl; omega
      obtain ⟨r, hr⟩ : ∃ r, r = num ((L.drop p).take (clip (a : Int))) := ⟨_, rfl⟩
      rw [← hr] at hb
      have HB := Lib.hid hb
      have hll : ((L.drop p).take (clip (a : Int))).length ≤ 64 := Nat.le_trans (List.length_take_le _ _) (clip_le _)
      obtain ⟨l', hl'⟩ : ∃ l', l' = (L.drop p).take (clip (a : Int)) := ⟨_, rfl⟩
      rw [← hl'] at hr hll
      have HR := Lib.hid hr
      have HL := Lib.hid hl'
      have hk : clip (a : Int) = a := by unfold clip; omega
      have HS0 : ∀ w1, BoolsIn w1 (.slice A L.length c) L → BoolsIn w1 (.slice (A.map fun x => x.add p) a (c - p)) l' ∧ (c = p → BoolsIn w1 (.slice A a 0) l') := (by
        intro w1 h1
        rw [HL.out, hk]
        refine ⟨h1.sub p a (by omega), fun hcp => ?_⟩
        obtain rfl : a = 0 := by omega
        exact BoolsIn.none (by rw [List.take_zero]) _ _)
      have HS := Lib.hid HS0
      have HK := Lib.hid hk
      clear hb hr hl' hlt HS0 hk
      go_enter Try.func21, Try.ntmps21
      go_wp2_with fail
      refine (eyeBits_any be 0 L p 0 a _ h0.eye (by omega) hn1 hn2).mono ?_
      rintro e w1 g1
      obtain ⟨rfl, h1⟩ := h0.step g1
      rw [HB.out] at h1 ⊢
      simp only [] at h1
      clear g1 h0
      obtain ⟨hs1, hs2⟩ := HS.out w1 h1.all
      have HS1 := Lib.hid hs1
      have HS2 := Lib.hid hs2
      clear hs1 hs2 HS
      go_wp2_with fail
      all_goals
        refine (refNumber_of _ l' r HR.out _ hll (by first | exact HS1.out | exact HS2.out (by omega))).mono ?_
        rintro e w2 ⟨rfl, rfl⟩
        go_wp2_with fail
        go_ret3
        exact ⟨_, 0, _, by rw [HK.out]; go_num, .inl ⟨rfl, rfl⟩, h1.eye, h1.fr⟩

set_option maxHeartbeats 1000000 in
set_option maxRecDepth 10000 in
theorem take_3a (n : Int) (m R : Nat) (u : Nat) (is : Bool) (be : Nat) (v : Value) (L : List Bool) (p : Nat) (w : World) (h : EyeAt w be 0 L p 0) (hv : BoolsIn w v L) (ho : v.ownBlock ≠ some be) (hn : L.length < 1000000000) (hm : m ≤ 100000)
    (hR : ∀ k, k < R → L[p + k]? = some true) (hRm : R ≤ m ∧ m ≤ R) (hb : eyeUnary L p 0 m = (R, p + R, 0)) (hpl : p + R ≤ L.length) :
    Calls Try.prog 21 #[.pointer (some ⟨be, 0, none⟩), v, .int .i64 p, (Th.mk 3 n m u is).val] w (TakeTo w be L) := by
  simp only [Th.val]
  have h0 := TakeAt.start h hv ho #[.int .i64 3, .int .i64 n, .int .i64 (m : Int), .int .u64 u, .bool is] 32
  have hle := h.le
  obtain ⟨A, c, rfl, hcap⟩ := hv.shape
  clear h hv
  have HB := Lib.hid hb
  have HR := Lib.hid hR
  skip
  clear hb hR
  go_enter Try.func21, Try.ntmps21
  go_wp2_with fail
  refine (eyeUnary_any be 0 L p 0 m _ h0.eye (by omega) (by omega)).mono ?_
  rintro e w1 g1
  obtain ⟨rfl, h1⟩ := h0.step g1
  rw [HB.out] at h1 ⊢
  simp only [] at h1
  clear g1 h0
  have HT := Lib.hid h1
  have d2 := h1.box 2 _ rfl
  clear h1
  obtain ⟨wt, hwt⟩ : ∃ wt : World, wt = w1 := ⟨_, rfl⟩
  go_wp2_with fail
  go_loopw [15] (fun i wr => ∃ k : Nat, k ≤ R ∧ i = .int .i64 k ∧ wr = w1) (fun i _ => R - (intOf i).toNat)
  case atStart => exact ⟨0, Nat.zero_le _, rfl, rfl⟩
  case round =>
    obtain ⟨k, hk, rfl, rfl⟩ := hrel
    clear hwt
    by_cases hkR : k < R
    · have hx := HR.out k hkR
      have hpk : p + k < L.length := (List.getElem?_eq_some_iff.1 hx).1
      obtain ⟨b1, o1, c1, he, hc1⟩ := HT.out.all.cells (p + k) true hx
      injection he with e1 e2 e3
      subst e1; subst e3
      clear hx e2
      go_wp2_with fail
      go_roundw
      case rel => exact ⟨k + 1, by omega, by go_num, by first | rfl | trivial⟩
      case measure => simp [intOf]; omega
    · obtain rfl : k = R := by omega
      skip
      go_wp2_with fail
      go_ret3
      exact ⟨_, 0, _, by go_num, .inl ⟨rfl, rfl⟩, HT.out.eye, HT.out.fr⟩

set_option maxHeartbeats 1000000 in
set_option maxRecDepth 10000 in
theorem take_3b (n : Int) (m R : Nat) (u : Nat) (is : Bool) (be : Nat) (v : Value) (L : List Bool) (p : Nat) (w : World) (h : EyeAt w be 0 L p 0) (hv : BoolsIn w v L) (ho : v.ownBlock ≠ some be) (hn : L.length < 1000000000) (hm : m ≤ 100000)
    (hR : ∀ k, k < R → L[p + k]? = some true) (hRm : R < m) (hb : eyeUnary L p 0 m = (0, p + R, 2)) (hpl : L.length ≤ p + R) :
    Calls Try.prog 21 #[.pointer (some ⟨be, 0, none⟩), v, .int .i64 p, (Th.mk 3 n m u is).val] w (TakeTo w be L) := by
  simp only [Th.val]
  have h0 := TakeAt.start h hv ho #[.int .i64 3, .int .i64 n, .int .i64 (m : Int), .int .u64 u, .bool is] 32
  have hle := h.le
  obtain ⟨A, c, rfl, hcap⟩ := hv.shape
  clear h hv
  have HB := Lib.hid hb
  have HR := Lib.hid hR
  skip
  clear hb hR
  go_enter Try.func21, Try.ntmps21
  go_wp2_with fail
  refine (eyeUnary_any be 0 L p 0 m _ h0.eye (by omega) (by omega)).mono ?_
  rintro e w1 g1
  obtain ⟨rfl, h1⟩ := h0.step g1
  rw [HB.out] at h1 ⊢
  simp only [] at h1
  clear g1 h0
  have HT := Lib.hid h1
  have d2 := h1.box 2 _ rfl
  clear h1
  obtain ⟨wt, hwt⟩ : ∃ wt : World, wt = w1 := ⟨_, rfl⟩
  go_wp2_with fail
  go_loopw [15] (fun i wr => ∃ k : Nat, k ≤ R ∧ i = .int .i64 k ∧ wr = w1) (fun i _ => R - (intOf i).toNat)
  case atStart => exact ⟨0, Nat.zero_le _, rfl, rfl⟩
  case round =>
    obtain ⟨k, hk, rfl, rfl⟩ := hrel
    clear hwt
    by_cases hkR : k < R
    · have hx := HR.out k hkR
      have hpk : p + k < L.length := (List.getElem?_eq_some_iff.1 hx).1
      obtain ⟨b1, o1, c1, he, hc1⟩ := HT.out.all.cells (p + k) true hx
      injection he with e1 e2 e3
      subst e1; subst e3
      clear hx e2
      go_wp2_with fail
      go_roundw
      case rel => exact ⟨k + 1, by omega, by go_num, by first | rfl | trivial⟩
      case measure => simp [intOf]; omega
    · obtain rfl : k = R := by omega
      skip
      go_wp2_with fail
      go_ret3
      exact ⟨_, 2, _, by go_num, .inr rfl, HT.out.eye, HT.out.fr⟩

set_option maxHeartbeats 1000000 in
set_option maxRecDepth 10000 in
theorem take_3c (n : Int) (m R : Nat) (u : Nat) (is : Bool) (be : Nat) (v : Value) (L : List Bool) (p : Nat) (w : World) (h : EyeAt w be 0 L p 0) (hv : BoolsIn w v L) (ho : v.ownBlock ≠ some be) (hn : L.length < 1000000000) (hm : m ≤ 100000)
    (hR : ∀ k, k < R → L[p + k]? = some true) (hRm : R < m) (hb : eyeUnary L p 0 m = (R, p + R + 1, 0)) (hpl : p + R < L.length) (hf : L[p + R]? = some false) :
    Calls Try.prog 21 #[.pointer (some ⟨be, 0, none⟩), v, .int .i64 p, (Th.mk 3 n m u is).val] w (TakeTo w be L) := by
  simp only [Th.val]
  have h0 := TakeAt.start h hv ho #[.int .i64 3, .int .i64 n, .int .i64 (m : Int), .int .u64 u, .bool is] 32
  have hle := h.le
  obtain ⟨A, c, rfl, hcap⟩ := hv.shape
  clear h hv
  have HB := Lib.hid hb
  have HR := Lib.hid hR
  have HF := Lib.hid hf
  clear hf
  clear hb hR
  go_enter Try.func21, Try.ntmps21
  go_wp2_with fail
  refine (eyeUnary_any be 0 L p 0 m _ h0.eye (by omega) (by omega)).mono ?_
  rintro e w1 g1
  obtain ⟨rfl, h1⟩ := h0.step g1
  rw [HB.out] at h1 ⊢
  simp only [] at h1
  clear g1 h0
  have HT := Lib.hid h1
  have d2 := h1.box 2 _ rfl
  clear h1
  obtain ⟨wt, hwt⟩ : ∃ wt : World, wt = w1 := ⟨_, rfl⟩
  go_wp2_with fail
  go_loopw [15] (fun i wr => ∃ k : Nat, k ≤ R ∧ i = .int .i64 k ∧ wr = w1) (fun i _ => R - (intOf i).toNat)
  case atStart => exact ⟨0, Nat.zero_le _, rfl, rfl⟩
  case round =>
    obtain ⟨k, hk, rfl, rfl⟩ := hrel
    clear hwt
    by_cases hkR : k < R
    · have hx := HR.out k hkR
      have hpk : p + k < L.length := (List.getElem?_eq_some_iff.1 hx).1
      obtain ⟨b1, o1, c1, he, hc1⟩ := HT.out.all.cells (p + k) true hx
      injection he with e1 e2 e3
      subst e1; subst e3
      clear hx e2
      go_wp2_with fail
      go_roundw
      case rel => exact ⟨k + 1, by omega, by go_num, by first | rfl | trivial⟩
      case measure => simp [intOf]; omega
    · obtain rfl : k = R := by omega
      obtain ⟨b1, o1, c1, he, hc1⟩ := HT.out.all.cells (p + k) false HF.out
      injection he with e1 e2 e3
      subst e1; subst e3
      clear e2
      go_wp2_with fail
      go_ret3
      exact ⟨_, 0, _, by go_num, .inl ⟨rfl, rfl⟩, HT.out.eye, HT.out.fr⟩

set_option maxHeartbeats 1000000 in
set_option maxRecDepth 10000 in
theorem take_3n (n m : Int) (u : Nat) (is : Bool) (be : Nat) (v : Value) (L : List Bool) (p : Nat) (w : World) (h : EyeAt w be 0 L p 0) (hv : BoolsIn w v L) (ho : v.ownBlock ≠ some be) (hn : L.length < 1000000000) (hm : m < 0) (hm1 : -9223372036854775808 ≤ m) :
    Calls Try.prog 21 #[.pointer (some ⟨be, 0, none⟩), v, .int .i64 p, (Th.mk 3 n m u is).val] w (TakeTo w be L) := by
  simp only [Th.val]
  have h0 := TakeAt.start h hv ho #[.int .i64 3, .int .i64 n, .int .i64 m, .int .u64 u, .bool is] 32
  have hle := h.le
  obtain ⟨A, c, rfl, hcap⟩ := hv.shape
  clear h hv
  have hb : eyeUnary L p 0 m = (0, p, 0) := by
    unfold eyeUnary
    rw [if_neg (by omega), show m.toNat = 0 by omega, if_pos (show run L p 0 = 0 from rfl), Nat.add_zero]
  have HB := Lib.hid hb
  clear hb
  go_enter Try.func21, Try.ntmps21
  go_wp2_with fail
  refine (eyeUnary_any be 0 L p 0 m _ h0.eye (by omega) (by omega)).mono ?_
  rintro e w1 g1
  obtain ⟨rfl, h1⟩ := h0.step g1
  rw [HB.out] at h1 ⊢
  simp only [] at h1
  clear g1 h0
  have HT := Lib.hid h1
  have d2 := h1.box 2 _ rfl
  clear h1
  go_wp2_with fail
  go_loopw [15] (fun i wr => i = .int .i64 0 ∧ wr = w1) (fun _ _ => 0)
  case atStart => exact ⟨rfl, rfl⟩
  case round =>
    obtain ⟨rfl, rfl⟩ := hrel
    go_wp2_with fail
    go_ret3
    exact ⟨_, 0, _, by go_num, .inl ⟨rfl, rfl⟩, HT.out.eye, HT.out.fr⟩

set_option maxHeartbeats 1000000 in
set_option maxRecDepth 10000 in
theorem take_0 (kd n m : Int) (u : Nat) (is : Bool) (be : Nat) (v : Value) (L : List Bool) (p : Nat) (w : World) (h : EyeAt w be 0 L p 0) (hv : BoolsIn w v L) (ho : v.ownBlock ≠ some be) (k1 : (kd == 1) = false) (k2 : (kd == 2) = false) (k3 : (kd == 3) = false) :
    Calls Try.prog 21 #[.pointer (some ⟨be, 0, none⟩), v, .int .i64 p, (Th.mk kd n m u is).val] w (TakeTo w be L) := by
  simp only [Th.val]
  have h0 := TakeAt.start h hv ho #[.int .i64 kd, .int .i64 n, .int .i64 m, .int .u64 u, .bool is] 32
  obtain ⟨A, c, rfl, hcap⟩ := hv.shape
  clear h hv
  go_enter Try.func21, Try.ntmps21
  go_wp2_with fail
  go_ret3
  exact ⟨p, 0, p, by go_num, .inl ⟨rfl, rfl⟩, h0.eye, h0.fr⟩

/-- A THING IS TAKEN -/
theorem take_any (t : Th) (ht : t.ok) (hm : t.m ≤ 100000) (be : Nat) (v : Value) (L : List Bool) (p : Nat) (w : World) (h : EyeAt w be 0 L p 0) (hv : BoolsIn w v L) (ho : v.ownBlock ≠ some be) (hn : L.length < 1000000000) :
    Calls Try.prog 21 #[.pointer (some ⟨be, 0, none⟩), v, .int .i64 p, t.val] w (TakeTo w be L) := by
  obtain ⟨kd, n, m, u, is⟩ := t
  obtain ⟨hk, hn', hm', hu⟩ := ht
  simp only [] at hk hn' hm' hu hm
  by_cases h1 : kd = 1
  · subst h1; exact take_1 n m u is be v L p w h hv ho hn
  by_cases h2 : kd = 2
  · subst h2
    rcases Nat.lt_or_ge (L.length - p) (clip n) with hlt | hge
    · exact take_2e n m u is be v L p w h hv ho hn hn'.1 hn'.2 hlt
    · exact take_2 n m u is be v L p w h hv ho hn hn'.1 hn'.2 hge
  by_cases h3 : kd = 3
  · subst h3
    rcases Int.lt_or_le m 0 with hm0 | hm0
    · exact take_3n n m u is be v L p w h hv ho hn hm0 hm'.1
    obtain ⟨M, rfl⟩ : ∃ M : Nat, m = (M : Int) := ⟨m.toNat, by omega⟩
    have hle := h.le
    obtain ⟨R, hR⟩ : ∃ R, R = run L p M := ⟨_, rfl⟩
    have hall : ∀ k, k < R → L[p + k]? = some true := fun k hk => run_all L M p k (by rw [← hR]; exact hk)
    have hRM : R ≤ M := by rw [hR]; exact run_le L M p
    have hpR : p + R ≤ L.length := by
      rcases Nat.eq_zero_or_pos R with h0 | h0
      · omega
      · have := (List.getElem?_eq_some_iff.1 (hall (R - 1) (by omega))).1
        omega
    have hst := run_stop L M p
    rw [← hR] at hst
    have he : ∀ x, (if run L p (M : Int).toNat = (M : Int).toNat then ((M : Int).toNat, p + (M : Int).toNat, 0) else if p + run L p (M : Int).toNat < L.length then (run L p (M : Int).toNat, p + run L p (M : Int).toNat + 1, 0) else (0, p + run L p (M : Int).toNat, 2)) = x → eyeUnary L p 0 (M : Int) = x := by
      intro x hx
      unfold eyeUnary
      rw [if_neg (by omega)]
      exact hx
    rw [Int.toNat_natCast, ← hR] at he
    by_cases hRm : R = M
    · exact take_3a n M R u is be v L p w h hv ho hn (by omega) hall (by omega) (he _ (by rw [if_pos hRm, hRm])) hpR
    · rcases Nat.lt_or_ge (p + R) L.length with hlt | hge
      · have hx : L[p + R]? = some false := by
          have := hst (by omega)
          rw [List.getD_eq_getElem?_getD, List.getElem?_eq_getElem hlt] at this
          rw [List.getElem?_eq_getElem hlt]
          exact congrArg some this
        exact take_3c n M R u is be v L p w h hv ho hn (by omega) hall (by omega) (he _ (by rw [if_neg hRm, if_pos hlt])) hlt hx
      · exact take_3b n M R u is be v L p w h hv ho hn (by omega) hall (by omega) (he _ (by rw [if_neg hRm, if_neg (by omega)])) hge
  exact take_0 kd n m u is be v L p w h hv ho (by simpa using h1) (by simpa using h2) (by simpa using h3)

end Go.Proofs.Ythgkcmmjdgginaa
