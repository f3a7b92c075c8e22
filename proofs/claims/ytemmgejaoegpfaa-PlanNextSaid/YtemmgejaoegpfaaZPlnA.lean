/-
  Layers 10 and 20: metas in memory; copies and sorts of them (slices.Clone, SortFunc, SortStableFunc of at most 20); listing.New.
-/
import Derived.Test.YtemmgejaoegpfaaZPlnM
import Derived.Test.YtemmgejaoegpfaaZMetA
import Derived.Test.YtemmgejaoegpfaaZLib9
import Derived.Test.YtemmgejaoegpfaaZLib14
import Derived.Test.YtemmgejaoegpfaaZLib16
import Derived.Test.YtemmgejaoegpfaaZShelf
import Derived.Lib.LazyBuf

namespace Go.Proofs.Ytemmgejaoegpfaa
open Go.RowKit Go.Bar Go.Bar.Leb Go.Bar.Frm Go.Bar.Idt Go.Bar.Met Go.Bar.Pln

/-- a meta in memory: where its slices lie -/
structure Mv where
  m : Mt
  fa : Option Addr
  fc : Nat
  sa : Option Addr
  sc : Nat
instance : Inhabited Mv := ⟨⟨⟨[], 0, 0, 0, 0, 0, [], []⟩, none, 0, none, 0⟩⟩
def encM (x : Mv) : List Value := [.string (bs x.m.id), .int .i64 x.m.mn, .int .i64 x.m.mx, .int .i64 x.m.lv, .int .i64 x.m.sr, .int .i64 x.m.sm, .slice x.fa x.m.fs.length x.fc, .slice x.sa x.m.ss.length x.sc]
theorem encM_eight (x : Mv) : (encM x).length = 8 := rfl
theorem encM_one (x : Mv) : ∀ v ∈ encM x, v.oneCell' = true := fun v hv => by
  simp [encM] at hv
  rcases hv with rfl | rfl | rfl | rfl | rfl | rfl | rfl | rfl <;> rfl
def mcs (l : List Mv) : List Value := l.flatMap encM
theorem mcs_length (l : List Mv) : (mcs l).length = l.length * 8 := flat_length encM 8 encM_eight l
theorem mcs_one (l : List Mv) : ∀ v ∈ mcs l, v.oneCell' = true := flat_one encM encM_one l
theorem mcs_snoc (l : List Mv) (x : Mv) : mcs (l ++ [x]) = mcs l ++ encM x := by simp [mcs]
theorem mcs_append (l l' : List Mv) : mcs (l ++ l') = mcs l ++ mcs l' := by simp [mcs]
/-- its slices are there -/
def MAt (w : World) (x : Mv) : Prop := FlsAt w (.slice x.fa x.m.fs.length x.fc) x.m.fs ∧ SrcAt w (.slice x.sa x.m.ss.length x.sc) x.m.ss
theorem MAt.below {w w' : World} {x : Mv} (h : MAt w x) (hb : Below w.heap.size w w') : MAt w' x := ⟨h.1.below hb, h.2.below hb⟩
/-- a slice of metas at w, their slices there at w0 -/
def MsAt (w0 w : World) (v : Value) (l : List Mt) : Prop := ∃ xs : List Mv, xs.map (·.m) = l ∧ SlAt w 8 v xs.length (mcs xs) ∧ ∀ x ∈ xs, MAt w0 x
/-- a buffer of metas of the call's own (since w), their slices there at w0 -/
def NMs (w0 w wr : World) (T : TypeId) (v : Value) (l : List Mt) : Prop := ∃ xs : List Mv, xs.map (·.m) = l ∧ NBuf w wr T 8 v xs.length (mcs xs) ∧ ∀ x ∈ xs, MAt w0 x
theorem map_len {xs : List Mv} {l : List Mt} (h : xs.map (·.m) = l) : xs.length = l.length := by rw [← h, List.length_map]
section
variable {w0 w w' wr : World} {v : Value} {l : List Mt} {T : TypeId}
theorem MsAt.below (h : MsAt w0 w v l) (hb : Below w.heap.size w w') : MsAt w0 w' v l := by
  obtain ⟨xs, h1, h2, h3⟩ := h
  exact ⟨xs, h1, h2.below hb, h3⟩
theorem MsAt.base (h : MsAt w0 w v l) (hb : Below w0.heap.size w0 w') : MsAt w' w v l := by
  obtain ⟨xs, h1, h2, h3⟩ := h
  exact ⟨xs, h1, h2, fun x hx => (h3 x hx).below hb⟩
theorem MsAt.shape (h : MsAt w0 w v l) : ∃ A c, v = .slice A l.length c ∧ l.length ≤ c ∧ c ≤ maxLen := by
  obtain ⟨xs, h1, h2, h3⟩ := h
  rw [← map_len h1]
  exact h2.shape
theorem MsAt.at_ {A : Option Addr} {n c i : Nat} {m : Mt} (h : MsAt w0 w (.slice A n c) l) (hi : l[i]? = some m) : ∃ b o x, A = some ⟨b, o, none⟩ ∧ b < w.heap.size ∧ x.m = m ∧ MAt w0 x ∧
    w.cell? ⟨b, o + i * 8, none⟩ = some (.string (bs m.id)) ∧ w.cell? ⟨b, o + i * 8 + 1, none⟩ = some (.int .i64 m.mn) ∧ w.cell? ⟨b, o + i * 8 + 2, none⟩ = some (.int .i64 m.mx) ∧ w.cell? ⟨b, o + i * 8 + 3, none⟩ = some (.int .i64 m.lv) ∧
    w.cell? ⟨b, o + i * 8 + 4, none⟩ = some (.int .i64 m.sr) ∧ w.cell? ⟨b, o + i * 8 + 5, none⟩ = some (.int .i64 m.sm) ∧ w.cell? ⟨b, o + i * 8 + 6, none⟩ = some (.slice x.fa m.fs.length x.fc) ∧ w.cell? ⟨b, o + i * 8 + 7, none⟩ = some (.slice x.sa m.ss.length x.sc) := by
  obtain ⟨xs, h1, h2, h3⟩ := h
  rw [← h1, List.getElem?_map] at hi
  obtain ⟨x, hx, rfl⟩ := Option.map_eq_some_iff.1 hi
  have hlt : i < xs.length := (List.getElem?_eq_some_iff.1 hx).1
  obtain ⟨A', c', he, _⟩ := h2.shape
  injection he with e1 e2 e3
  subst e1; subst e2; subst e3
  obtain ⟨b, o, rfl, hb, hc⟩ := SlAt.cells h2 (by omega)
  have g := flat_get encM 8 encM_eight xs i x hx
  exact ⟨b, o, x, rfl, hb, rfl, h3 x (List.mem_of_getElem? hx), hc _ _ (g 0 (by omega)), hc _ _ (g 1 (by omega)), hc _ _ (g 2 (by omega)), hc _ _ (g 3 (by omega)), hc _ _ (g 4 (by omega)), hc _ _ (g 5 (by omega)), hc _ _ (g 6 (by omega)), hc _ _ (g 7 (by omega))⟩
theorem NMs.slice (h : NMs w0 w wr T v l) : MsAt w0 wr v l := by
  obtain ⟨xs, h1, h2, h3⟩ := h
  exact ⟨xs, h1, h2.slice, h3⟩
theorem NMs.below_ (h : NMs w0 w wr T v l) : Below w.heap.size w wr := by obtain ⟨xs, _, h2, _⟩ := h; exact h2.below
theorem NMs.then_below (h : NMs w0 w wr T v l) (hb : Below wr.heap.size wr w') : NMs w0 w w' T v l := by
  obtain ⟨xs, h1, h2, h3⟩ := h
  exact ⟨xs, h1, h2.then_below hb, h3⟩
theorem NMs.alloc (h : NMs w0 w wr T v l) (o : Obj) : NMs w0 w (wr.alloc o) T v l := h.then_below ((Below.refl _ _).alloc (Nat.le_refl _) o)
theorem NMs.drew (h : NMs w0 w wr T v l) : NMs w0 w wr.drew T v l := h.then_below (Below.refl _ _).drew
theorem NMs.nil (h : Below w.heap.size w wr) (w0 : World) (T : TypeId) : NMs w0 w wr T (.slice none 0 0) [] := ⟨[], rfl, NBuf.nil h T 8, by simp⟩
theorem NMs.lit0 (h : Below w.heap.size w wr) (w0 : World) (T : TypeId) : NMs w0 w (wr.alloc (.cells #[] T)) T (.slice (some ⟨wr.heap.size, 0, none⟩) 0 0) [] := ⟨[], rfl, NBuf.lit0 h T 8, by simp⟩
theorem NMs.shape (h : NMs w0 w wr T v l) : ∃ A c, v = .slice A l.length c ∧ l.length ≤ c ∧ c ≤ maxLen := h.slice.shape
theorem NMs.after {w1 : World} (h : NMs w0 w wr T v l) (hb : Below w1.heap.size w1 w) : NMs w0 w1 wr T v l := by
  obtain ⟨xs, h1, h2, h3⟩ := h
  exact ⟨xs, h1, h2.after hb, h3⟩
theorem NMs.set_ne (h : NMs w0 w wr T v l) {M : Nat} {T' : TypeId} {cur : Array Value} (hb : Blk wr M T' cur) (hne : T ≠ T') (hM : w.heap.size ≤ M) (i : Nat) (u : Value) : NMs w0 w (wr.setCell ⟨M, i, none⟩ u) T v l := by
  obtain ⟨xs, h1, h2, h3⟩ := h
  exact ⟨xs, h1, h2.set_ne hb hne hM i u, h3⟩
theorem NMs.fr_ne (h : NMs w0 w wr T v l) {Q : Nat} {T' : TypeId} {cur : Array Value} (hb : Blk wr Q T' cur) (hne : T ≠ T') (hQ : w.heap.size ≤ Q) (hf : Fr (fun k _ => k = Q) wr w') : NMs w0 w w' T v l := by
  obtain ⟨xs, h1, h2, h3⟩ := h
  exact ⟨xs, h1, h2.fr_ne hb hne hQ hf, h3⟩
theorem NMs.base {w1 : World} (h : NMs w0 w wr T v l) (hb : Below w0.heap.size w0 w1) : NMs w1 w wr T v l := by
  obtain ⟨xs, h1, h2, h3⟩ := h
  exact ⟨xs, h1, h2, fun x hx => (h3 x hx).below hb⟩
end

/-- a listing -/
def LiAt (w0 w : World) (v : Value) (at_ : Int) (l : List Mt) (mk : Marks) (n : Nat) : Prop := ∃ mv b, v = .agg #[.int .i64 at_, mv, .map (some b)] ∧ MsAt w0 w mv l ∧ MpAt Try.prog 9 3 w b n mk
theorem LiAt.below {w0 w w' : World} {v : Value} {at_ : Int} {l : List Mt} {mk : Marks} {n : Nat} (h : LiAt w0 w v at_ l mk n) (hb : Below w.heap.size w w') : LiAt w0 w' v at_ l mk n := by
  obtain ⟨mv, b, rfl, h1, h2⟩ := h
  exact ⟨mv, b, rfl, h1.below hb, h2.below hb⟩
theorem below_al (w : World) (o : Obj) : Below w.heap.size w (w.alloc o) := (Below.refl _ _).alloc (Nat.le_refl _) o
theorem marks_ty : MapTy Try.prog 24 9 3 := ⟨Try.underlying24, Try.underlying9, Try.underlying3, fun w => by kernel_rfl⟩
theorem meta_ty : ElemTy Try.prog 23 55 (.agg #[.string ByteArray.empty, .int .i64 0, .int .i64 0, .int .i64 0, .int .i64 0, .int .i64 0, .slice none 0 0, .slice none 0 0]) 8 104 :=
  ⟨Try.underlying23, info_parts (show (Try.prog.info? 55).map (fun i => (i.zero, i.size, i.bytes)) = some (some (.agg #[.string ByteArray.empty, .int .i64 0, .int .i64 0, .int .i64 0, .int .i64 0, .int .i64 0, .slice none 0 0, .slice none 0 0]), 8, 104) by kernel_rfl), rfl⟩

theorem cmpBytes_eq : ∀ (a b : List UInt8), Lib.compareBytes a b = Lab.cmpB a b
  | [], [] => rfl
  | [], _ :: _ => by simp [Lib.compareBytes, Lab.cmpB]
  | _ :: _, [] => by simp [Lib.compareBytes, Lab.cmpB]
  | a :: x, b :: y => by
    have ih := cmpBytes_eq x y
    unfold Lab.cmpB at ih
    unfold Lib.compareBytes Lab.cmpB
    simp only [List.cons_lt_cons_iff]
    rw [ih]
    by_cases h1 : a < b
    · simp [h1]
    · by_cases h2 : b < a
      · have h3 : a ≠ b := fun h => by rw [h] at h2; exact absurd h2 (UInt8.lt_irrefl b)
        simp [h1, h2, h3]
      · have h3 : a = b := UInt8.toNat_inj.1 (by rw [UInt8.lt_iff_toNat_lt] at h1 h2; omega)
        subst h3
        simp
theorem strCompare_any (a b : List UInt8) (w : World) : Calls Try.prog 30 #[.string (bs a), .string (bs b)] w fun e w' => e = .returned (.int .i64 (Lab.cmpB a b)) ∧ w = w' :=
  (Try.strings_Compare (bs a) (bs b) w).mono fun _ _ ⟨h1, h2⟩ => ⟨by rw [h1, bs_data, bs_data, cmpBytes_eq], h2.symm⟩

set_option maxHeartbeats 1000000 in
theorem byId_any (x y : Mv) (w : World) : Calls Try.prog 29 #[.agg (encM x).toArray, .agg (encM y).toArray] w
    fun e w' => e = .returned (.int .i64 (Lab.cmpB x.m.id y.m.id)) ∧ ∃ k os, w' = Sort.grow (w.drewN k) os := by
  have hcon := strCompare_any x.m.id y.m.id
  have HC := Lib.hid hcon
  clear hcon
  show Calls Try.prog 29 #[.agg #[.string (bs x.m.id), .int .i64 x.m.mn, .int .i64 x.m.mx, .int .i64 x.m.lv, .int .i64 x.m.sr, .int .i64 x.m.sm, .slice x.fa x.m.fs.length x.fc, .slice x.sa x.m.ss.length x.sc], .agg #[.string (bs y.m.id), .int .i64 y.m.mn, .int .i64 y.m.mx, .int .i64 y.m.lv, .int .i64 y.m.sr, .int .i64 y.m.sm, .slice y.fa y.m.fs.length y.fc, .slice y.sa y.m.ss.length y.sc]] w _
  go_enter Try.func29, Try.ntmps29
  go_wp2_with fail
  refine (HC.out _).mono ?_
  rintro e w' ⟨rfl, rfl⟩
  go_wp2_with fail
  go_ret
  exact ⟨rfl, 0, _, by rw [Sort.alloc_eq_grow, Sort.alloc_eq_grow, Sort.grow_grow]; rfl⟩

/-- numbers compared -/
def cmpI (a b : Int) : Int := if a < b then -1 else if b < a then 1 else 0

set_option maxHeartbeats 1000000 in
theorem cmpInt_any (a b : Int) (w : World) : Calls Try.prog 36 #[.int .i64 a, .int .i64 b] w fun e w' => e = .returned (.int .i64 (cmpI a b)) ∧ w = w' := by
  unfold cmpI
  by_cases h : a < b
  · rw [if_pos h]
    go_enter Try.func36, Try.ntmps36
    go_wp2
    go_ret
    exact ⟨rfl, rfl⟩
  · rw [if_neg h]
    by_cases h2 : b < a
    · rw [if_pos h2]
      go_enter Try.func36, Try.ntmps36
      go_wp2
      go_ret
      exact ⟨rfl, rfl⟩
    · rw [if_neg h2]
      go_enter Try.func36, Try.ntmps36
      go_wp2
      go_ret
      exact ⟨rfl, rfl⟩

set_option maxHeartbeats 1000000 in
theorem byMin_any (x y : Mv) (w : World) : Calls Try.prog 35 #[.agg (encM x).toArray, .agg (encM y).toArray] w
    fun e w' => e = .returned (.int .i64 (cmpI x.m.mn y.m.mn)) ∧ ∃ k os, w' = Sort.grow (w.drewN k) os := by
  have hcon := cmpInt_any x.m.mn y.m.mn
  have HC := Lib.hid hcon
  clear hcon
  show Calls Try.prog 35 #[.agg #[.string (bs x.m.id), .int .i64 x.m.mn, .int .i64 x.m.mx, .int .i64 x.m.lv, .int .i64 x.m.sr, .int .i64 x.m.sm, .slice x.fa x.m.fs.length x.fc, .slice x.sa x.m.ss.length x.sc], .agg #[.string (bs y.m.id), .int .i64 y.m.mn, .int .i64 y.m.mx, .int .i64 y.m.lv, .int .i64 y.m.sr, .int .i64 y.m.sm, .slice y.fa y.m.fs.length y.fc, .slice y.sa y.m.ss.length y.sc]] w _
  go_enter Try.func35, Try.ntmps35
  go_wp2_with fail
  refine (HC.out _).mono ?_
  rintro e w' ⟨rfl, rfl⟩
  go_wp2_with fail
  go_ret
  exact ⟨rfl, 0, _, by rw [Sort.alloc_eq_grow, Sort.alloc_eq_grow, Sort.grow_grow]; rfl⟩
end Go.Proofs.Ytemmgejaoegpfaa
