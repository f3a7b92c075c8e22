/-
  Layer 20: the names of a plan's blocks.
-/
import Derived.Test.YtemmgejaoegpfaaZPlnF
import Derived.Test.YtemmgejaoegpfaaZPlnG
import Derived.Test.YtemmgejaoegpfaaZLib16
import Derived.Test.YtemmgejaoegpfaaZMetR

namespace Go.Proofs.Ytemmgejaoegpfaa
open Go.RowKit Go.Bar Go.Bar.Leb Go.Bar.Frm Go.Bar.Idt Go.Bar.Met Go.Bar.Pln

/-- names, rising -/
def srtS (l : List (List UInt8)) : List (List UInt8) := l.mergeSort fun x y => decide (x ≤ y)
theorem srtS_perm (l : List (List UInt8)) : (srtS l).Perm l := List.mergeSort_perm _ _
theorem srtS_len (l : List (List UInt8)) : (srtS l).length = l.length := (srtS_perm l).length_eq
theorem scs_enc (l : List (List UInt8)) : scs l = l.map Go.Proofs.encStr := rfl

set_option maxHeartbeats 4000000 in
set_option maxRecDepth 10000 in
theorem names_any (p : Pl) (v : Value) (w : World) (h : MsAt w w v p.ms) (hl : p.ms.length ≤ 1000) (hsm : ∀ m ∈ p.ms, Sm m) :
    Calls Try.prog 17 #[.agg #[.int .i64 p.fr, .int .i64 p.to_, .int .i64 p.lv, v]] w (RetSs w (srtS (p.ms.map (·.id)))) := by
  obtain ⟨A, c, rfl, hlc, hcm⟩ := h.shape
  unfold maxLen at hcm
  obtain ⟨L, hL⟩ : ∃ L, L = p.ms := ⟨_, rfl⟩
  rw [← hL] at h hl hsm hlc ⊢
  clear hL
  have HSM := Lib.hid hsm
  clear hsm
  go_enter Try.func17, Try.ntmps17
  go_wp2_with fail
  have B0 := below_al w (.cells #[.int .i64 p.fr, .int .i64 p.to_, .int .i64 p.lv, .slice A L.length c] 33)
  obtain ⟨w1, hw1⟩ : ∃ w1, w1 = w.alloc (.cells #[.int .i64 p.fr, .int .i64 p.to_, .int .i64 p.lv, .slice A L.length c] 33) := ⟨_, rfl⟩
  rw [← hw1] at B0 ⊢
  clear hw1
  go_loopw [3, 9] (fun ov i wr => ∃ k : Nat, i = .int .i64 k ∧ k ≤ L.length ∧ NBuf w wr 9 1 ov k (scs ((L.take k).map (·.id)))) (fun _ i _ => L.length - (intOf i).toNat)
  case atStart => exact ⟨0, rfl, Nat.zero_le _, NBuf.nil B0 _ _⟩
  case round =>
    obtain ⟨k, rfl, hk, hnb⟩ := hrel
    obtain ⟨A2, c2, rfl, hc2⟩ := hnb.buf.shape
    clear B0
    by_cases hgo : k < L.length
    · obtain ⟨m, hmk⟩ : ∃ m, L[k]? = some m := ⟨_, List.getElem?_eq_getElem hgo⟩
      obtain ⟨bb, o, x, rfl, _, hxm, hma, c0, c1, c2', c3, c4, c5, c6, c7⟩ := (h.below hnb.below).at_ hmk
      have hft : scs ((L.take (k + 1)).map (·.id)) = scs ((L.take k).map (·.id)) ++ [.string (bs m.id)] := by
        rw [List.take_add_one, hmk, Option.toList_some, List.map_append, scs_append]; rfl
      have HFT := Lib.hid hft
      clear hmk hxm hma hft
      have hci : (0 : Int) ≤ (k : Int) := by omega
      have hnb1 := hnb.alloc (.cells #[.string (bs m.id), .int .i64 m.mn, .int .i64 m.mx, .int .i64 m.lv, .int .i64 m.sr, .int .i64 m.sm, .slice x.fa m.fs.length x.fc, .slice x.sa m.ss.length x.sc] 55)
      clear hnb
      go_wp2_with (at_builtin; refine wpList_append_nlit rfl (.tmp 13) (.tmp 16) 43 rfl str_ty rfl hnb1 rfl (by simp) rfl (by simp [Value.oneCell']) (by simp only [maxLen]; omega) (by omega) ?_; intro v3 w5 hnb5 _)
      go_roundw
      case rel => exact ⟨k + 1, by go_num, by omega, by rw [HFT.out]; exact hnb5⟩
      case measure => simp [intOf]; omega
    · obtain rfl : k = L.length := by omega
      rw [List.take_length] at hnb
      obtain ⟨I, hI⟩ : ∃ I, I = L.map (·.id) := ⟨_, rfl⟩
      have hIl : L.length = I.length := by rw [hI, List.length_map]
      rw [← hI] at hnb
      have HI := Lib.hid hI
      clear hI
      have hc : Calls Try.prog 31 #[.slice A2 L.length c2] wr fun e w' => e = .returned (.tuple #[]) ∧ NBuf w w' 9 1 (.slice A2 L.length c2) (srtS I).length (scs (srtS I)) := by
        rw [srtS_len]
        rw [hIl] at hnb ⊢
        rcases Nat.eq_zero_or_pos I.length with h0 | h0
        · obtain rfl : I = [] := List.eq_nil_of_length_eq_zero h0
          refine (Try.slices_Sort_string_none A2 c2 wr).mono ?_
          rintro e w' ⟨rfl, rfl⟩
          exact ⟨rfl, by rw [show srtS [] = [] from List.eq_nil_of_length_eq_zero (srtS_len [])]; exact hnb⟩
        · obtain ⟨bb, o, hA2, hlt⟩ := hnb.buf.some_at h0
          subst hA2
          refine (Try.slices_Sort_string bb o c2 I wr (Buf.holds Go.Proofs.encStr hnb.buf) hlt (by omega)).mono ?_
          rintro e w' ⟨rfl, n, os, rfl⟩
          have hb := Buf.sortRow Go.Proofs.encStr hnb.buf n (srtS I).toArray (by rw [List.size_toArray, srtS_len]) h0 os
          refine ⟨rfl, ?_, grown_below hnb.below (heap_sortRow Go.Proofs.encStr n (srtS I).toArray os hlt) (hnb.new bb rfl) (Nat.le_refl _), hnb.new⟩
          exact hb
      have HC := Lib.hid hc
      clear hc hnb hIl
      go_wp2_with fail
      refine HC.out.mono ?_
      rintro e w' ⟨rfl, hn⟩
      have HN := Lib.hid hn
      clear hn
      go_wp2_with fail
      go_ret
      exact ⟨_, rfl, by rw [← HI.out]; exact HN.out⟩
end Go.Proofs.Ytemmgejaoegpfaa

/-
  Layer 20: the listing that the laws make of their argument: plain, and what lies in memory meanwhile.
-/
namespace Go.Proofs.Ytemmgejaoegpfaa
open Go.RowKit Go.Bar Go.Bar.Leb Go.Bar.Frm Go.Bar.Idt Go.Bar.Met Go.Bar.Pln

/-- a block of the argument -/
structure On where
  fr : Int
  wi : Int
  sz : Int
  so : Int
  im : Bool
def On.ok (x : On) : Prop := (-9223372036854775808 ≤ x.fr ∧ x.fr ≤ 9223372036854775807) ∧ (-9223372036854775808 ≤ x.wi ∧ x.wi ≤ 9223372036854775807) ∧ (-9223372036854775808 ≤ x.sz ∧ x.sz ≤ 9223372036854775807) ∧ (-9223372036854775808 ≤ x.so ∧ x.so ≤ 9223372036854775807)
def encO (x : On) : List Value := [.int .i64 x.fr, .int .i64 x.wi, .int .i64 x.sz, .int .i64 x.so, .bool x.im]
theorem encO_five (x : On) : (encO x).length = 5 := rfl
/-- the argument -/
def OnsAt (w : World) (v : Value) (l : List On) : Prop := SlAt w 5 v l.length (l.flatMap encO)
theorem OnsAt.below {w w' : World} {v : Value} {l : List On} (h : OnsAt w v l) (hb : Below w.heap.size w w') : OnsAt w' v l := SlAt.below h hb
theorem OnsAt.shape {w : World} {v : Value} {l : List On} (h : OnsAt w v l) : ∃ A c, v = .slice A l.length c ∧ l.length ≤ c ∧ c ≤ maxLen := SlAt.shape h
theorem OnsAt.at_ {w : World} {A : Option Addr} {n c i : Nat} {l : List On} {x : On} (h : OnsAt w (.slice A n c) l) (hi : l[i]? = some x) : ∃ b o, A = some ⟨b, o, none⟩ ∧ b < w.heap.size ∧
    w.cell? ⟨b, o + i * 5, none⟩ = some (.int .i64 x.fr) ∧ w.cell? ⟨b, o + i * 5 + 1, none⟩ = some (.int .i64 x.wi) ∧ w.cell? ⟨b, o + i * 5 + 2, none⟩ = some (.int .i64 x.sz) ∧ w.cell? ⟨b, o + i * 5 + 3, none⟩ = some (.int .i64 x.so) ∧ w.cell? ⟨b, o + i * 5 + 4, none⟩ = some (.bool x.im) := by
  have hlt : i < l.length := (List.getElem?_eq_some_iff.1 hi).1
  obtain ⟨A', c', he, _⟩ := h.shape
  injection he with e1 e2 e3
  subst e1; subst e2; subst e3
  obtain ⟨b, o, rfl, hb, hc⟩ := SlAt.cells h (by omega)
  have g := flat_get encO 5 encO_five l i x hi
  exact ⟨b, o, rfl, hb, hc _ _ (g 0 (by omega)), hc _ _ (g 1 (by omega)), hc _ _ (g 2 (by omega)), hc _ _ (g 3 (by omega)), hc _ _ (g 4 (by omega))⟩

theorem and_mask (t : Int) (j : Nat) (hj : j < 63) : bits .and .i64 t ((2 ^ j - 1 : Nat) : Int) = t % ((2 ^ j : Nat) : Int) := by
  have hp : 2 ^ j < 2 ^ 63 := Nat.pow_lt_pow_right (by omega) hj
  have hpos : 0 < 2 ^ j := Nat.pos_of_ne_zero (by simp)
  have e : bits .and .i64 t ((2 ^ j - 1 : Nat) : Int) = IntKind.i64.wrap ((BitVec.ofInt 64 t &&& BitVec.ofInt 64 ((2 ^ j - 1 : Nat) : Int)).toNat : Int) := rfl
  have h3 : (BitVec.ofInt 64 ((2 ^ j - 1 : Nat) : Int)).toNat = 2 ^ j - 1 := ofInt_i64 _ (by omega)
  rw [BitVec.toNat_and, h3, Nat.and_two_pow_sub_one_eq_mod, IntKind.wrap_i64] at e
  rw [e]
  have h4 : (BitVec.ofInt 64 t).toNat = (t % 18446744073709551616).toNat := by rw [BitVec.toNat_ofInt]; rfl
  rw [h4]
  have h5 : (((t % 18446744073709551616).toNat % 2 ^ j : Nat) : Int) = t % ((2 ^ j : Nat) : Int) := by
    rw [Int.natCast_emod, Int.toNat_of_nonneg (Int.emod_nonneg _ (by omega))]
    refine Int.emod_emod_of_dvd _ ?_
    have : ((2 ^ j : Nat) : Int) ∣ ((2 ^ 64 : Nat) : Int) := Int.natCast_dvd_natCast.2 (Nat.pow_dvd_pow 2 (by omega))
    exact this
  rw [h5]
  have h6 := Int.emod_nonneg t (b := ((2 ^ j : Nat) : Int)) (by omega)
  have h7 := Int.emod_lt_of_pos t (b := ((2 ^ j : Nat) : Int)) (by omega)
  omega
theorem and15 (t : Int) : bits .and .i64 t 15 = t % 16 := and_mask t 4 (by omega)
theorem and3 (t : Int) : bits .and .i64 t 3 = t % 4 := and_mask t 2 (by omega)
theorem and1 (t : Int) : bits .and .i64 t 1 = t % 2 := and_mask t 1 (by omega)
theorem and32767 (t : Int) : bits .and .i64 t 32767 = t % 32768 := and_mask t 15 (by omega)
theorem and262143 (t : Int) : bits .and .i64 t 262143 = t % 262144 := and_mask t 18 (by omega)

/-- is the k-th bit of a number 1? -/
def bitZ (z : Int) (k : Nat) : Bool := z / 2 ^ k % 2 == 1
/-- the i-th block -/
def mkSs (so : Int) (i : Nat) : List (List UInt8) := ((List.range i).filter (bitZ so)).map (fun k => mk 1 k)
def mkM (wd : Int) (i : Nat) (x : On) : Mt := ⟨mk 1 i, x.fr % 16 * wd, x.fr % 16 * wd + (1 + x.wi % 4) * wd, 1 + x.wi % 4, 1, 1 + x.sz % 32768, [⟨chunksN, x.sz % 262144, 0⟩, ⟨indexN, 9, 0⟩], mkSs x.so i⟩
def mkL (wd : Int) (L : List On) : List Mt := L.zipIdx.map fun p => mkM wd p.2 p.1
def isMk (L : List On) (id : List UInt8) : Bool := L.zipIdx.any (fun p => p.1.im && (id == mk 1 p.2))
def mkF (L : List On) : Marks := fun id => bif isMk L id then some 3 else none
theorem isMk_snoc (L : List On) (x : On) (id : List UInt8) : isMk (L ++ [x]) id = (isMk L id || (x.im && (id == mk 1 L.length))) := by
  unfold isMk
  rw [List.zipIdx_append, List.any_append]
  show (_ || ((x.im && (id == mk 1 (0 + L.length))) || false)) = _
  rw [Bool.or_false, Nat.zero_add]
theorem mkL_snoc (wd : Int) (L : List On) (x : On) : mkL wd (L ++ [x]) = mkL wd L ++ [mkM wd L.length x] := by
  unfold mkL
  rw [List.zipIdx_append, List.map_append]
  simp
theorem mkL_len (wd : Int) (L : List On) : (mkL wd L).length = L.length := by unfold mkL; simp
theorem mkF_snoc (L : List On) (x : On) : mkF (L ++ [x]) = if x.im then upd (mkF L) (mk 1 L.length) 3 else mkF L := by
  funext id
  have e : mkF (L ++ [x]) id = bif isMk L id || (x.im && (id == mk 1 L.length)) then some 3 else none := by
    unfold mkF
    rw [isMk_snoc]
  rw [e]
  cases hx : x.im
  · rw [Bool.false_and, Bool.or_false]; rfl
  · rw [if_pos rfl, Bool.true_and]
    unfold upd
    by_cases hid : id = mk 1 L.length
    · rw [if_pos hid, show (id == mk 1 L.length) = true from beq_iff_eq.2 hid, Bool.or_true]; rfl
    · rw [if_neg hid, show (id == mk 1 L.length) = false from beq_eq_false_iff_ne.2 hid, Bool.or_false]; rfl
theorem mkL_at {wd : Int} {L : List On} {i : Nat} {x : On} (h : L[i]? = some x) : (mkL wd L)[i]? = some (mkM wd i x) := by
  unfold mkL
  rw [List.getElem?_map, List.getElem?_zipIdx, h]
  simp
theorem mkSs_succ (so : Int) (q : Nat) : mkSs so (q + 1) = mkSs so q ++ (if bitZ so q then [mk 1 q] else []) := by
  unfold mkSs
  rw [List.range_succ, List.filter_append, List.map_append]
  congr 1
  simp only [List.filter_cons, List.filter_nil]
  split <;> rfl
theorem mkSs_len (so : Int) (q : Nat) : (mkSs so q).length ≤ q := by
  unfold mkSs
  rw [List.length_map]
  exact Nat.le_trans (List.length_filter_le _ _) (by simp)

theorem mk_lt {a b : Nat} (h : a < b) (hb : b < 1000) : mk 1 a < mk 1 b := by
  have h1 := less_mk 1 a 1 b (by omega) (by omega) (by omega) (by omega)
  rw [show (decide (1 < 1) || (1 == 1 && decide (a < b))) = true by simp [h]] at h1
  rw [Lab.less_eq] at h1
  exact of_decide_eq_true h1
theorem mkM_sm {wd : Int} (h1 : 1 ≤ wd) (h2 : wd ≤ 1000) (i : Nat) (hi : i ≤ 1000) (x : On) : Sm (mkM wd i x) := by
  have e1 : 0 ≤ x.fr % 16 ∧ x.fr % 16 ≤ 15 := by omega
  have e2 : 0 ≤ x.wi % 4 ∧ x.wi % 4 ≤ 3 := by omega
  have e3 : 0 ≤ x.fr % 16 * wd ∧ x.fr % 16 * wd ≤ 15 * 1000 := ⟨Int.mul_nonneg e1.1 (by omega), Int.mul_le_mul e1.2 h2 (by omega) (by omega)⟩
  have e4 : 0 ≤ (1 + x.wi % 4) * wd ∧ (1 + x.wi % 4) * wd ≤ 4 * 1000 := ⟨Int.mul_nonneg (by omega) (by omega), Int.mul_le_mul (by omega) h2 (by omega) (by omega)⟩
  refine ⟨?_, ?_, ?_, ?_, ?_, ?_, ?_, ?_, ?_⟩
  · show (mk 1 i).length ≤ 1000
    rw [mk_length]; omega
  · intro s hs
    have hs : s ∈ mkSs x.so i := hs
    unfold mkSs at hs
    obtain ⟨k, _, rfl⟩ := List.mem_map.1 hs
    rw [mk_length]; omega
  · exact Nat.le_trans (mkSs_len x.so i) hi
  · show 0 ≤ x.fr % 16 * wd ∧ x.fr % 16 * wd ≤ 1000000
    omega
  · show 0 ≤ x.fr % 16 * wd + (1 + x.wi % 4) * wd ∧ x.fr % 16 * wd + (1 + x.wi % 4) * wd ≤ 1000000
    omega
  · show 0 ≤ 1 + x.wi % 4 ∧ 1 + x.wi % 4 ≤ 1000
    omega
  · show (0 : Int) ≤ 1 ∧ (1 : Int) ≤ 1000000
    decide
  · show 0 ≤ 1 + x.sz % 32768 ∧ 1 + x.sz % 32768 ≤ 1000000
    omega
  · exact ⟨_, _, rfl, by show 0 ≤ x.sz % 262144; omega, by show x.sz % 262144 ≤ 1000000; omega, by decide, by decide⟩
theorem mkL_lst {wd : Int} (h1 : 1 ≤ wd) (h2 : wd ≤ 1000) (L : List On) (hL : L.length ≤ 100) : Lst (mkL wd L) := by
  refine ⟨fun m hm => ?_, by rw [mkL_len]; omega, ?_⟩
  · obtain ⟨i, hi, rfl⟩ := List.mem_iff_getElem.1 hm
    rw [mkL_len] at hi
    have := mkL_at (wd := wd) (L := L) (i := i) (x := L[i]) (List.getElem?_eq_getElem hi)
    rw [List.getElem?_eq_getElem (by rw [mkL_len]; exact hi)] at this
    injection this with this
    rw [this]
    exact mkM_sm h1 h2 i (by omega) _
  · rw [List.pairwise_iff_getElem]
    intro i j hi hj hij
    rw [mkL_len] at hi hj
    have g1 := mkL_at (wd := wd) (L := L) (i := i) (x := L[i]) (List.getElem?_eq_getElem hi)
    have g2 := mkL_at (wd := wd) (L := L) (i := j) (x := L[j]) (List.getElem?_eq_getElem hj)
    rw [List.getElem?_eq_getElem (by rw [mkL_len]; assumption)] at g1 g2
    injection g1 with g1
    injection g2 with g2
    rw [g1, g2]
    exact mk_lt hij (by omega)

theorem mk_ne {a b : Nat} (ha : a < 1000) (hb : b < 1000) (h : a ≠ b) : mk 1 a ≠ mk 1 b := fun e => by
  rcases (show a < b ∨ b < a by omega) with h1 | h1
  · have := mk_lt h1 hb; rw [e] at this; exact Lab.b_irrefl _ this
  · have := mk_lt h1 ha; rw [e] at this; exact Lab.b_irrefl _ this
theorem mkF_at {L : List On} {j : Nat} {y : On} (h : L[j]? = some y) (hL : L.length ≤ 100) : mkF L (mk 1 j) = if y.im then some 3 else none := by
  have hj : j < L.length := (List.getElem?_eq_some_iff.1 h).1
  have e : isMk L (mk 1 j) = y.im := by
    unfold isMk
    rw [Bool.eq_iff_iff, List.any_eq_true]
    constructor
    · rintro ⟨p, hp, hc⟩
      rw [Bool.and_eq_true, beq_iff_eq] at hc
      rw [List.mem_zipIdx_iff_getElem?] at hp
      have hp2 : p.2 < L.length := (List.getElem?_eq_some_iff.1 hp).1
      have : p.2 = j := by
        by_cases e : j = p.2
        · exact e.symm
        · exact absurd hc.2 (mk_ne (by omega) (by omega) e)
      rw [this, h] at hp
      injection hp with hp
      rw [hp]; exact hc.1
    · intro hy
      exact ⟨(y, j), by rw [List.mem_zipIdx_iff_getElem?]; exact h, by rw [Bool.and_eq_true, beq_iff_eq]; exact ⟨hy, rfl⟩⟩
  unfold mkF
  rw [e]
  cases y.im <;> rfl
end Go.Proofs.Ytemmgejaoegpfaa
