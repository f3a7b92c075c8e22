/-
  Layer 16 (blocks): plain mathematics of what is built of a table, and of a block's table: no condition.
-/
import Derived.Test.YtgabmfibfikdbaaGreatDoorZBokM
import Derived.Test.YtgabmfibfikdbaaGreatDoorZLebM
import Derived.BigQuiet
import Derived.Deep.QuietTactic

namespace Go.Bar.Bok
open Go.RowKit Go.Bar Go.Bar.Leb Go.Bar.Frm Go.Bar.Lab Go.Bar.Xor Go.Bar.Mrg Go.Bar.Met

def first (L : List Sm) : Int := (L.headD (0, 0)).1
def last (L : List Sm) : Int := (L.getLastD (0, 0)).1
/-- a row that may go into a block of these times -/
structure RowOk (a b : Int) (r : Row) : Prop where
  ne : r.2 ≠ []
  lab : Lab.Ok r.1
  fr : a ≤ first r.2
  to : last r.2 < b
  tm : ∀ x ∈ r.2, 0 ≤ x.1 ∧ x.1 ≤ 1099511627776
/-- a row's entry, its chunks at a place -/
def rEn (r : Row) (at_ : Nat) : En := ⟨r.1, at_, (chB r.2).length, first r.2, last r.2⟩
def bEn : List Row → Nat → List En
  | [], _ => []
  | r :: R, a => rEn r a :: bEn R (a + (chB r.2).length)
def bCh (R : List Row) : List UInt8 := R.flatMap fun r => chB r.2
/-- the meta of a table's block -/
def bMt (id : List UInt8) (a b lv : Int) (ss : List (List UInt8)) (R : List Row) : Mt :=
  ⟨id, a, b, lv, R.length, cntR R, [⟨chunksN, (bCh R).length, Frm.sum (bCh R)⟩, ⟨indexN, (idxB (bEn R 0)).length, Frm.sum (idxB (bEn R 0))⟩], ss⟩
/-- a table that goes as a block -/
structure BdOk (id : List UInt8) (a b lv : Int) (ss : List (List UInt8)) (R : List Row) : Prop where
  good : GoodP R
  rows : ∀ r ∈ R, RowOk a b r
  meta_ : Met.Ok (bMt id a b lv ss R)
theorem bEn_append : ∀ (A B : List Row) (a : Nat), bEn (A ++ B) a = bEn A a ++ bEn B (a + (bCh A).length)
  | [], B, a => by simp [bEn, bCh]
  | r :: A, B, a => by
    rw [List.cons_append, bEn, bEn, bEn_append A B, List.cons_append]
    unfold bCh
    rw [List.flatMap_cons, List.length_append, Nat.add_assoc]
theorem bEn_len : ∀ (R : List Row) (a : Nat), (bEn R a).length = R.length
  | [], _ => rfl
  | r :: R, a => by rw [bEn, List.length_cons, List.length_cons, bEn_len R]
theorem bCh_append (A B : List Row) : bCh (A ++ B) = bCh A ++ bCh B := List.flatMap_append
theorem bEn_snoc (A : List Row) (r : Row) : bEn (A ++ [r]) 0 = bEn A 0 ++ [rEn r (bCh A).length] := by
  rw [bEn_append, Nat.zero_add]; rfl
theorem bCh_snoc (A : List Row) (r : Row) : bCh (A ++ [r]) = bCh A ++ chB r.2 := by
  rw [bCh_append]; unfold bCh; simp
theorem bEn_at : ∀ {R : List Row} {i : Nat} {r : Row} (a : Nat), R[i]? = some r → (bEn R a)[i]? = some (rEn r (a + (bCh (R.take i)).length))
  | [], i, r, a, h => by simp at h
  | x :: R, 0, r, a, h => by
    injection h with h
    subst h
    simp [bEn, bCh]
  | x :: R, i + 1, r, a, h => by
    rw [bEn, List.getElem?_cons_succ, bEn_at (a + (chB x.2).length) (by simpa using h), List.take_succ_cons]
    unfold bCh
    rw [List.flatMap_cons, List.length_append, Nat.add_assoc]
theorem bEn_rls : ∀ (R : List Row) (a : Nat), Rls R → (bEn R a).Pairwise (fun x y => cmpL x.ls y.ls < 0)
  | [], _, _ => List.Pairwise.nil
  | r :: R, a, h => by
    obtain ⟨h1, h2⟩ := List.pairwise_cons.1 h
    rw [bEn]
    refine List.pairwise_cons.2 ⟨fun y hy => ?_, bEn_rls R _ h2⟩
    obtain ⟨i, hi⟩ := List.mem_iff_getElem?.1 hy
    have hlt := (List.getElem?_eq_some_iff.1 hi).1
    rw [bEn_len] at hlt
    have hr : R[i]? = some R[i] := List.getElem?_eq_getElem hlt
    rw [bEn_at _ hr] at hi
    injection hi with hi
    rw [← hi]
    exact h1 _ (List.getElem_mem hlt)
theorem bCh_take {R : List Row} {i : Nat} {r : Row} (h : R[i]? = some r) : ∃ t, bCh R = bCh (R.take i) ++ (chB r.2 ++ t) := by
  obtain ⟨hlt, rfl⟩ := List.getElem?_eq_some_iff.1 h
  refine ⟨bCh (R.drop (i + 1)), ?_⟩
  conv => lhs; rw [← List.take_append_drop i R, bCh_append, List.drop_eq_getElem_cons hlt]
  rfl
theorem first_mem {L : List Sm} (h : L ≠ []) : ∃ x ∈ L, first L = x.1 := by
  cases L with
  | nil => exact absurd rfl h
  | cons x r => exact ⟨x, List.mem_cons_self .., rfl⟩
theorem last_mem {L : List Sm} (h : L ≠ []) : ∃ x ∈ L, last L = x.1 := by
  unfold last
  cases L with
  | nil => exact absurd rfl h
  | cons x r =>
    refine ⟨(x :: r).getLastD (0, 0), ?_, rfl⟩
    rw [List.getLastD_cons]
    cases r with
    | nil => simp
    | cons y s =>
      rw [List.getLastD_eq_getLast?, List.getLast?_eq_some_getLast (by simp)]
      exact List.mem_cons_of_mem _ (List.getLast_mem _)
theorem first_le_last {L : List Sm} (h : Ris L) : first L ≤ last L := by
  cases L with
  | nil => exact Int.le_refl _
  | cons x r =>
    obtain ⟨y, hy, he⟩ := last_mem (L := x :: r) (by simp)
    rw [he]
    show x.1 ≤ y.1
    rcases List.mem_cons.1 hy with rfl | hy
    · exact Int.le_refl _
    · exact Int.le_of_lt ((List.pairwise_cons.1 h).1 y hy)
theorem ckR_ne {L : List Sm} (h : L ≠ []) : 1 ≤ (chB L).length := by
  unfold chB ckR
  have : 0 < nP L := by unfold nP; have := List.length_pos_iff.2 h; omega
  obtain ⟨m, hm⟩ : ∃ m, nP L = m + 1 := ⟨nP L - 1, by omega⟩
  rw [hm, List.range_succ_eq_map, List.map_cons, laid_cons, List.length_append, rec_len]
  omega
theorem rEn_ok {a b : Int} {r : Row} {at_ : Nat} (h : RowOk a b r) (hr : Ris r.2) (h1 : at_ ≤ 1048576) (h2 : (chB r.2).length ≤ 1048576) : EnOk (rEn r at_) := by
  obtain ⟨x, hx, e1⟩ := first_mem h.ne
  obtain ⟨y, hy, e2⟩ := last_mem h.ne
  have h3 := ckR_ne h.ne
  have h4 := first_le_last hr
  have t1 := h.tm x hx
  have t2 := h.tm y hy
  exact ⟨h.lab, ⟨by show (0 : Int) ≤ (at_ : Nat); omega, by show ((at_ : Nat) : Int) ≤ _; omega⟩, ⟨by show (1 : Int) ≤ ((chB r.2).length : Nat); omega, by show (((chB r.2).length : Nat) : Int) ≤ _; omega⟩, by show 0 ≤ first r.2; omega, h4, by show last r.2 ≤ _; omega⟩
theorem bEn_ok {a b : Int} {R : List Row} (h : ∀ r ∈ R, RowOk a b r) (hg : GoodP R) (hl : (bCh R).length ≤ 1048576) : ∀ x ∈ bEn R 0, EnOk x := by
  intro x hx
  obtain ⟨i, hi⟩ := List.mem_iff_getElem?.1 hx
  have hlt := (List.getElem?_eq_some_iff.1 hi).1
  rw [bEn_len] at hlt
  have hr : R[i]? = some R[i] := List.getElem?_eq_getElem hlt
  rw [bEn_at _ hr] at hi
  injection hi with hi
  obtain ⟨t, ht⟩ := bCh_take hr
  rw [ht, List.length_append, List.length_append] at hl
  rw [← hi]
  have hm := List.getElem_mem hlt
  exact rEn_ok (h _ hm) (hg.2 _ hm) (by omega) (by omega)

/-- are these a file's bytes? -/
def holdsB (f : Fl) (s : List UInt8) : Bool := f.size == s.length && f.sum == Frm.sum s
/-- rows of entries -/
def tRows (mn mx : Int) (C : List UInt8) : List En → Nat → List Row → List Row × Nat × Nat
  | [], a, out => (out, a, 0)
  | x :: l, a, out =>
    if x.fr ≠ a ∨ (C.length : Int) - a < x.n then ([], 0, 3)
    else if (smpsR ((C.drop a).take x.n.toNat)).2 ≠ 0 then ([], 0, (smpsR ((C.drop a).take x.n.toNat)).2)
    else if (smpsR ((C.drop a).take x.n.toNat)).1 = [] ∨ first (smpsR ((C.drop a).take x.n.toNat)).1 ≠ x.mn ∨ last (smpsR ((C.drop a).take x.n.toNat)).1 ≠ x.mx ∨ x.mn < mn ∨ mx ≤ x.mx then ([], 0, 3)
    else tRows mn mx C l (a + x.n.toNat) (out ++ [(x.ls, (smpsR ((C.drop a).take x.n.toNat)).1)])
/-- the table of a block -/
def tableR (m : Mt) (C I : List UInt8) : List Row × Nat :=
  if (holdsB (m.fs.getD 0 ⟨[], 0, 0⟩) C && holdsB (m.fs.getD 1 ⟨[], 0, 0⟩) I) = false then ([], 4)
  else if (entriesR I).2 ≠ 0 then ([], (entriesR I).2)
  else if (tRows m.mn m.mx C (entriesR I).1 0 []).2.2 ≠ 0 then ([], (tRows m.mn m.mx C (entriesR I).1 0 []).2.2)
  else if ((tRows m.mn m.mx C (entriesR I).1 0 []).2.1 : Int) ≠ C.length ∨ ((tRows m.mn m.mx C (entriesR I).1 0 []).1.length : Int) ≠ m.sr ∨ (cntR (tRows m.mn m.mx C (entriesR I).1 0 []).1 : Int) ≠ m.sm then ([], 3)
  else ((tRows m.mn m.mx C (entriesR I).1 0 []).1, 0)
theorem row_sm {a b : Int} {R : List Row} {r : Row} (h : ∀ r ∈ R, RowOk a b r) (hg : GoodP R) (hv : ∀ r ∈ R, ∀ x ∈ r.2, x.2 < 18446744073709551616) (hr : r ∈ R) : SmOk r.2 := ⟨hg.2 r hr, (h r hr).tm, hv r hr⟩
theorem tRows_of {a b : Int} {R : List Row} (h : ∀ r ∈ R, RowOk a b r) (hg : GoodP R) (hv : ∀ r ∈ R, ∀ x ∈ r.2, x.2 < 18446744073709551616) : ∀ (B A : List Row), A ++ B = R → tRows a b (bCh R) (bEn B (bCh A).length) (bCh A).length A = (R, (bCh R).length, 0)
  | [], A, e => by
    rw [List.append_nil] at e
    rw [e]; rfl
  | r :: B, A, e => by
    have hm : r ∈ R := by rw [← e]; exact List.mem_append_right _ (List.mem_cons_self ..)
    have hs := smpsR_of (row_sm h hg hv hm)
    have hC : bCh R = bCh A ++ (chB r.2 ++ bCh B) := by rw [← e, bCh_append]; rfl
    have hd : ((bCh R).drop (bCh A).length).take (rEn r (bCh A).length).n.toNat = chB r.2 := by
      rw [hC, List.drop_left]
      show (chB r.2 ++ bCh B).take (((chB r.2).length : Nat) : Int).toNat = _
      rw [Int.toNat_natCast, List.take_left]
    rw [bEn, tRows, hd, hs]
    simp only
    rw [if_neg (by
      rintro (h1 | h1)
      · exact h1 rfl
      · rw [hC, List.length_append, List.length_append] at h1
        have h1 : ((((bCh A).length + ((chB r.2).length + (bCh B).length) : Nat) : Int)) - ((bCh A).length : Nat) < (((chB r.2).length : Nat) : Int) := h1
        omega), if_neg (by omega), if_neg (by
      have hro := h r hm
      rintro (h1 | h1 | h1 | h1 | h1)
      · exact hro.ne h1
      · exact h1 rfl
      · exact h1 rfl
      · have h2 := hro.fr
        have h1 : first r.2 < a := h1
        omega
      · have h2 := hro.to
        have h1 : b ≤ last r.2 := h1
        omega)]
    have e2 : (bCh A).length + (rEn r (bCh A).length).n.toNat = (bCh (A ++ [r])).length := by
      rw [bCh_snoc, List.length_append]
      show _ + ((((chB r.2).length : Nat) : Int)).toNat = _
      rw [Int.toNat_natCast]
    have e3 : (bCh A).length + (chB r.2).length = (bCh (A ++ [r])).length := by rw [bCh_snoc, List.length_append]
    rw [e2, e3]
    exact tRows_of h hg hv B (A ++ [r]) (by rw [List.append_assoc]; exact e)
/-- A BLOCK COMES BACK -/
theorem tableR_of {id : List UInt8} {a b lv : Int} {ss : List (List UInt8)} {R : List Row} (h : BdOk id a b lv ss R) (hv : ∀ r ∈ R, ∀ x ∈ r.2, x.2 < 18446744073709551616) (hn : R.length ≤ 10000) (hd : (idxD (bEn R 0)).length ≤ 1048576) (hl : (bCh R).length ≤ 1048576) :
    tableR (bMt id a b lv ss R) (bCh R) (idxB (bEn R 0)) = (R, 0) := by
  have he := entriesR_of (bEn_ok h.rows h.good hl) (bEn_rls R 0 h.good.1) (by rw [bEn_len]; exact hn) hd
  have ht := tRows_of h.rows h.good hv R [] rfl
  have ht : tRows a b (bCh R) (bEn R 0) 0 [] = (R, (bCh R).length, 0) := ht
  unfold tableR
  rw [if_neg (by simp [bMt, holdsB]), he]
  simp only
  rw [if_neg (by omega)]
  show (if (tRows a b (bCh R) (bEn R 0) 0 []).2.2 ≠ 0 then _ else _) = _
  simp [bMt, ht]
/-- A FILE THAT IS BENT -/
theorem tableR_bent {m : Mt} {C I : List UInt8} (h : holdsB (m.fs.getD 0 ⟨[], 0, 0⟩) C = false ∨ holdsB (m.fs.getD 1 ⟨[], 0, 0⟩) I = false) : tableR m C I = ([], 4) := by
  unfold tableR
  rw [if_pos]
  rcases h with h | h <;> rw [h]
  · rfl
  · exact Bool.and_false _
/-- the sizes of what is built -/
theorem enB_len {x : En} (h : EnOk x) : (enB x).length ≤ 800 := by
  obtain ⟨h1, _, _, _, _, _⟩ := h
  have u1 := u_len (w64 x.fr) (w64_lt _)
  have u2 := u_len (w64 x.n) (w64_lt _)
  have u3 := u_len (w64 x.mn) (w64_lt _)
  have u4 := u_len (w64 x.mx) (w64_lt _)
  have u5 := u_len x.ls.length (by have := h1.2.1; omega)
  have hh : ∀ l : List Pr, (∀ p ∈ l, p.1.length ≤ 40 ∧ p.2.length ≤ 40) → (l.flatMap fun p => tx p.1 ++ tx p.2).length ≤ 90 * l.length := by
    intro l hl
    induction l with
    | nil => exact Nat.le_refl _
    | cons p r ih =>
      have ih := ih (fun q hq => hl q (List.mem_cons_of_mem _ hq))
      have hp := hl p (List.mem_cons_self ..)
      have v1 := u_len_le 0 p.1.length (by omega)
      have v2 := u_len_le 0 p.2.length (by omega)
      have e : (tx p.1 ++ tx p.2).length ≤ 90 := by
        unfold tx
        rw [List.length_append, List.length_append, List.length_append]
        omega
      rw [List.flatMap_cons, List.length_append, List.length_cons]
      omega
  have hk := hh x.ls (fun p hp => ⟨(okP_len (h1.2.2.1 p hp)).1, (okP_len (h1.2.2.1 p hp)).2.1⟩)
  have h8 := h1.2.1
  unfold enB enT key
  rw [List.length_append, List.length_append, List.length_append, List.length_append, List.length_append]
  omega
end Go.Bar.Bok

/-
  Layer 1: the walks of leb's functions: what each call returns; buffers by chains of appends.
-/
namespace Go.Proofs.YtgabmfibfikdbaaGreatDoor
open Go.RowKit Go.Bar Go.Bar.Leb

set_option maxHeartbeats 400000 in
set_option maxRecDepth 10000 in
theorem takeUint_any (s : ByteArray) (w : World) (hs : s.size ≤ maxLen) :
    Calls Tryz.prog 75 #[.string s] w (Quiet w (.tuple #[.int .u64 (takeU s.data.toList).1, .string (bs (takeU s.data.toList).2.1), .int .i64 (takeU s.data.toList).2.2])) := by
  unfold maxLen at hs
  go_enter Tryz.func75, Tryz.ntmps75
  go_wp2
  go_loopw [5, 10] (fun v i wr => ∃ k acc : Nat, k ≤ s.size ∧ k ≤ 9 ∧ acc < 128 ^ k ∧ v = .int .u64 acc ∧ i = .int .i64 k ∧ wr = w ∧ tk k acc (s.data.toList.drop k) = takeU s.data.toList)
    (fun _ i _ => s.size - (intOf i).toNat)
  case atStart => exact ⟨0, 0, Nat.zero_le _, by omega, by simp, rfl, rfl, rfl, rfl⟩
  case round =>
    obtain ⟨k, acc, hk, hk9, hacc, rfl, rfl, rfl, htk⟩ := hrel
    have HT := Lib.hid htk
    clear htk
    by_cases hlt : k < s.size
    · rw [drop_cons s k hlt] at HT
      go_wp2
      case roundEnd =>
        have h9 : ¬ (k : Int) = 9 := by assumption
        have h1 : (128 : Int) ≤ s[k].toNat := by assumption
        refine ⟨⟨k + 1, _, by omega, by omega, acc_lt acc k _ hacc, by rw [acc_step acc k _ hacc hk9 (UInt8.toNat_lt _) (by omega) _ (by simp)], by go_num, trivial, ?_⟩, by simp [intOf]; omega⟩
        rw [← HT.out, tk_more (by omega) (by omega)]
      all_goals (try (go_quiet (fail); go_wp2))
      all_goals go_ret3
      all_goals first
        | exact Quiet.of (takeU_bad hlt HT (by omega)) ⟨0, rfl⟩
        | exact Quiet.of (takeU_last hlt hk9 hacc HT (by omega) (by omega) (by omega) _ _ _ (by omega) (by first | (simp; done) | (rw [show k = 9 by omega]; rfl)) (by omega)) ⟨_, rfl⟩
    · go_wp2
      go_ret3
      have e : s.data.toList.drop k = [] := List.drop_eq_nil_of_le (by rw [← size_eq]; omega)
      rw [← HT.out, e]
      exact Quiet.same

theorem takeUint_of {v e : Nat} {r : List UInt8} (s : ByteArray) (h : takeU s.data.toList = (v, r, e)) (w : World) (hs : s.size ≤ maxLen) :
    Calls Tryz.prog 75 #[.string s] w (Quiet w (.tuple #[.int .u64 v, .string (bs r), .int .i64 e])) := by
  have := takeUint_any s w hs
  rw [h] at this
  exact this

theorem bytes_ty : ByteTy Tryz.prog 96 5 :=
  ⟨Tryz.underlying96, Tryz.underlying5, info_parts (show (Tryz.prog.info? 5).map (fun i => (i.zero, i.size, i.bytes)) = some (some (.int .u8 0), 1, 1) by kernel_rfl)⟩

set_option maxHeartbeats 400000 in
set_option maxRecDepth 10000 in
theorem uint_any (V : Value) (xs : List UInt8) (n : Nat) (W : World) (hn : n < 18446744073709551616) (hx : xs.length + 10 ≤ 140737488355328) (hb : BBuf W 5 V xs) :
    Calls Tryz.prog 48 #[V, .int .u64 n] W (RetB W V 5 xs (u n)) := by
  have hul := u_len n hn
  go_enter Tryz.func48, Tryz.ntmps48
  go_wp2
  go_loopw [0, 1] (fun b m wr => ∃ (k : Nat) (ys : List UInt8), k < 18446744073709551616 ∧ m = .int .u64 k ∧ BApp W V 5 xs wr b ys ∧ ys ++ u k = u n) (fun _ m _ => (intOf m).toNat)
  case atStart => exact ⟨n, [], hn, rfl, BApp.start' hb, rfl⟩
  case round =>
    obtain ⟨k, ys, hk, rfl, happ, hys⟩ := hrel
    have HY := Lib.hid hys
    have hyl : ys.length + (u k).length ≤ 10 := by rw [← List.length_append, hys]; exact hul
    have hup := u_pos k
    clear hys
    by_cases hlt : 127 < k
    · go_wp2_with (at_builtin; refine wpList_append_byte rfl (.tmp 9) (.tmp 13) 96 rfl bytes_ty _ (byte_hi k) rfl happ rfl (by omega) ?_; intro v' w' happ'; clear happ)
      go_roundw
      case rel => exact ⟨k / 128, _, by omega, by go_num, happ', by rw [← HY.out, u_ge (n := k) (by omega), List.append_assoc]; rfl⟩
      case measure => simp [intOf]; omega
    · go_wp2_with (at_builtin; refine wpList_append_byte rfl (.tmp 15) (.tmp 18) 96 rfl bytes_ty _ (byte_lo k (by omega)) rfl happ rfl (by omega) ?_; intro v' w' happ'; clear happ)
      go_ret
      exact ⟨v', rfl, by rw [← HY.out, u_lt (by omega)]; exact happ'⟩

set_option maxHeartbeats 400000 in
theorem text_any (V : Value) (xs : List UInt8) (s : ByteArray) (W : World) (hs : s.size ≤ maxLen) (hx : xs.length + 10 + s.size ≤ 140737488355328) (hb : BBuf W 5 V xs) :
    Calls Tryz.prog 91 #[V, .string s] W (RetB W V 5 xs (u s.size ++ s.data.toList)) := by
  unfold maxLen at hs
  have hul := u_len s.size (by omega)
  go_enter Tryz.func91, Tryz.ntmps91
  go_wp2_with fail
  refine (uint_any V xs s.size _ (by omega) (by omega) hb).mono ?_
  rintro e w' ⟨v', rfl, happ⟩
  go_wp2_with (at_builtin; refine wpList_append_str rfl (.tmp 9) (.tmp 10) 96 9 rfl bytes_ty Tryz.underlying9 s rfl happ rfl (by omega) ?_; intro v2 w2 happ2)
  go_ret
  exact ⟨v2, rfl, happ2⟩

set_option maxHeartbeats 400000 in
theorem takeMost_any (s : ByteArray) (most : Int) (w : World) (hs : s.size ≤ maxLen) (h1 : -9223372036854775808 ≤ most) (h2 : most ≤ 9223372036854775807) :
    Calls Tryz.prog 36 #[.string s, .int .i64 most] w (Quiet w (.tuple #[.int .i64 (takeMost s.data.toList most).1, .string (bs (takeMost s.data.toList most).2.1), .int .i64 (takeMost s.data.toList most).2.2])) := by
  have hp := takeU_prop s.data.toList
  unfold takeMost
  obtain ⟨v, r, er, ht⟩ : ∃ v r er, takeU s.data.toList = (v, r, er) := ⟨_, _, _, rfl⟩
  have HT := Lib.hid ht
  rw [ht] at hp ⊢
  clear ht
  obtain ⟨hv, _, he⟩ := hp
  simp only [] at hv he ⊢
  rcases he with rfl | ⟨he, rfl, rfl⟩
  · by_cases hm : (max most 0).toNat < v
    · rw [if_pos ⟨rfl, hm⟩]
      go_enter Tryz.func36, Tryz.ntmps36
      go_wp2_with fail
      refine (takeUint_of s HT.out _ hs).mono ?_
      rintro e w' ⟨rfl, n, rfl⟩
      go_wp2_with fail
      all_goals go_ret3
      all_goals exact ⟨rfl, _, rfl⟩
    · rw [if_neg (fun h => hm h.2)]
      have hv2 : v ≤ 9223372036854775807 := by omega
      go_enter Tryz.func36, Tryz.ntmps36
      go_wp2_with fail
      refine (takeUint_of s HT.out _ hs).mono ?_
      rintro e w' ⟨rfl, n, rfl⟩
      go_wp2_with fail
      all_goals go_ret3
      all_goals exact ⟨rfl, _, rfl⟩
  · rw [if_neg (fun h => by omega)]
    have hb : ((er : Int) == 0) = false := by rw [beq_eq_false_iff_ne]; omega
    clear he
    go_enter Tryz.func36, Tryz.ntmps36
    go_wp2_with fail
    refine (takeUint_of s HT.out _ hs).mono ?_
    rintro e w' ⟨rfl, n, rfl⟩
    go_wp2_with fail
    all_goals go_ret3
    all_goals exact ⟨rfl, _, rfl⟩

theorem takeMost_of {v e : Nat} {r : List UInt8} (s : ByteArray) (most : Int) (h : takeMost s.data.toList most = (v, r, e)) (w : World) (hs : s.size ≤ maxLen) (h1 : -9223372036854775808 ≤ most) (h2 : most ≤ 9223372036854775807) :
    Calls Tryz.prog 36 #[.string s, .int .i64 most] w (Quiet w (.tuple #[.int .i64 v, .string (bs r), .int .i64 e])) := by
  have := takeMost_any s most w hs h1 h2
  rw [h] at this
  exact this

set_option maxHeartbeats 400000 in
theorem takeText_any (s : ByteArray) (most : Int) (w : World) (hs : s.size ≤ maxLen) (h1 : -9223372036854775808 ≤ most) (h2 : most ≤ 9223372036854775807) :
    Calls Tryz.prog 100 #[.string s, .int .i64 most] w (Quiet w (.tuple #[.string (bs (takeText s.data.toList most).1), .string (bs (takeText s.data.toList most).2.1), .int .i64 (takeText s.data.toList most).2.2])) := by
  have hp := takeMost_prop s.data.toList most h2
  have hs' : s.data.toList.length ≤ 9223372036854775807 := hs
  unfold takeText
  obtain ⟨v, r, er, ht⟩ : ∃ v r er, takeMost s.data.toList most = (v, r, er) := ⟨_, _, _, rfl⟩
  have HT := Lib.hid ht
  rw [ht] at hp ⊢
  clear ht
  obtain ⟨hv, hr, he⟩ := hp
  simp only [] at hv he hr ⊢
  have hrs : (bs r).size = r.length := rfl
  have hrl : r.length ≤ 9223372036854775807 := Nat.le_trans hr hs'
  clear hr hs'
  rcases he with rfl | ⟨he, rfl, rfl⟩
  · rw [if_neg (by omega)]
    by_cases hm : r.length < v
    · rw [if_pos hm]
      go_enter Tryz.func100, Tryz.ntmps100
      go_wp2_with fail
      refine (takeMost_of s most HT.out _ hs h1 h2).mono ?_
      rintro e w' ⟨rfl, n, rfl⟩
      go_wp2_with fail
      all_goals go_ret3
      all_goals exact ⟨rfl, _, rfl⟩
    · rw [if_neg hm]
      have hle : v ≤ (bs r).size := by rw [bs_size]; omega
      go_enter Tryz.func100, Tryz.ntmps100
      go_wp2_with fail
      refine (takeMost_of s most HT.out _ hs h1 h2).mono ?_
      rintro e w' ⟨rfl, n, rfl⟩
      go_wp2_with fail
      go_quiet (fail)
      go_wp2_with fail
      all_goals go_ret3
      refine ⟨?_, n + nq, by rw [World.drewN_drewN]⟩
      have e1 : (bs r).extract 0 v = bs (r.take v) := bs_extract r 0 v
      have e2 : (bs r).extract v r.length = bs (r.drop v) := by rw [bs_extract, List.take_of_length_le (by rw [List.length_drop]; exact Nat.le_refl _)]
      rw [← e1, ← e2]
      rfl
  · rw [if_pos he]
    have hb : ((er : Int) == 0) = false := by rw [beq_eq_false_iff_ne]; omega
    have hb2 : ((er : Int) != 0) = true := by rw [bne_iff_ne]; omega
    clear he
    go_enter Tryz.func100, Tryz.ntmps100
    go_wp2_with fail
    refine (takeMost_of s most HT.out _ hs h1 h2).mono ?_
    rintro e w' ⟨rfl, n, rfl⟩
    go_wp2_with fail
    all_goals go_ret3
    all_goals exact ⟨rfl, _, rfl⟩

theorem takeText_of {e : Nat} {t r : List UInt8} (s : ByteArray) (most : Int) (h : takeText s.data.toList most = (t, r, e)) (w : World) (hs : s.size ≤ maxLen) (h1 : -9223372036854775808 ≤ most) (h2 : most ≤ 9223372036854775807) :
    Calls Tryz.prog 100 #[.string s, .int .i64 most] w (Quiet w (.tuple #[.string (bs t), .string (bs r), .int .i64 e])) := by
  have := takeText_any s most w hs h1 h2
  rw [h] at this
  exact this

set_option maxHeartbeats 400000 in
theorem takeByte_none (s : ByteArray) (w : World) (h0 : s.data.toList = []) :
    Calls Tryz.prog 73 #[.string s] w (Quiet w (.tuple #[.int .u8 0, .string (bs []), .int .i64 2])) := by
  obtain rfl : s = bs [] := by rw [← bs_eta s, h0]
  clear h0
  have he : (bs []).toList.isEmpty = true := bs_isEmpty []
  go_enter Tryz.func73, Tryz.ntmps73
  go_wp2_with fail
  all_goals go_ret3
  all_goals exact ⟨rfl, 0, rfl⟩

set_option maxHeartbeats 400000 in
theorem takeByte_some (s : ByteArray) (w : World) (c : UInt8) (r : List UInt8) (hs : s.size ≤ maxLen) (h0 : s.data.toList = c :: r) :
    Calls Tryz.prog 73 #[.string s] w (Quiet w (.tuple #[.int .u8 c.toNat, .string (bs r), .int .i64 0])) := by
  obtain rfl : s = bs (c :: r) := by rw [← bs_eta s, h0]
  unfold maxLen at hs
  clear h0
  have hsz : (bs (c :: r)).size = r.length + 1 := rfl
  have he : (bs (c :: r)).toList.isEmpty = false := bs_isEmpty _
  go_enter Tryz.func73, Tryz.ntmps73
  go_wp2_with fail
  go_quiet (fail)
  go_wp2_with fail
  go_ret3
  refine ⟨?_, _, rfl⟩
  have e2 : (bs (c :: r)).extract 1 (r.length + 1) = bs r := by
    rw [bs_extract]
    simp
  rw [← e2]
  rfl

end Go.Proofs.YtgabmfibfikdbaaGreatDoor
