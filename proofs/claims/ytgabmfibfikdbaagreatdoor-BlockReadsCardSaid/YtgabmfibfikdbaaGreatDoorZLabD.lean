/-
  Layer 6: the walk of label's Make: pairs, sorted by their names.
-/
import Derived.Test.YtgabmfibfikdbaaGreatDoorZMetA
import Derived.Test.YtgabmfibfikdbaaGreatDoorZLib13
import Derived.Lib.LazyBuf
import Derived.Test.YtgabmfibfikdbaaGreatDoorZLib9
import Derived.Test.YtgabmfibfikdbaaGreatDoorZLebA
import Derived.Lib.Builder
import Derived.Lib.AppendStr
import Derived.Laws.Externs
import Derived.Test.YtgabmfibfikdbaaGreatDoorZLib14
import Derived.Test.YtgabmfibfikdbaaGreatDoorZLib15
import Derived.Deep.QuietTactic
import Derived.BigQuiet
import Derived.IntWalk
import Derived.RangeFuncNested
import Derived.RangeFuncBound
import Derived.RangeFuncCalls
import Derived.Shelf.Abstract
import Derived.Shelf.AbstractIn
import Derived.Shelf.RegionOpen
import Derived.OwnWalkIn
import Derived.TacticsInMore
import Derived.LoopNIn
import Derived.LoopIn

namespace Go.Proofs.YtgabmfibfikdbaaGreatDoor
open Go.RowKit Go.Bar Go.Bar.Leb Go.Bar.Lab

theorem cmpB_eq : ∀ (a b : List UInt8), Lib.compareBytes a b = cmpB a b
  | [], [] => rfl
  | [], _ :: _ => by simp [Lib.compareBytes, cmpB]
  | _ :: _, [] => by simp [Lib.compareBytes, cmpB]
  | a :: x, b :: y => by
    have ih := cmpB_eq x y
    unfold cmpB at ih
    unfold Lib.compareBytes cmpB
    simp only [List.cons_lt_cons_iff]
    rw [ih]
    by_cases h1 : a < b
    · simp [h1]
    · by_cases h2 : b < a
      · have h3 : a ≠ b := fun h => by rw [h] at h2; exact absurd h2 (UInt8.lt_irrefl b)
        simp [h1, h2, h3]
      · have h3 : a = b := UInt8.toNat_inj.1 (by rw [UInt8.lt_iff_toNat_lt] at h1 h2; omega)
        subst h3
        simp
theorem compare_any (a b : List UInt8) (w : World) : Calls Tryz.prog 79 #[.string (bs a), .string (bs b)] w fun e w' => e = .returned (.int .i64 (cmpB a b)) ∧ w = w' :=
  (Tryz.strings_Compare (bs a) (bs b) w).mono fun _ _ ⟨h1, h2⟩ => ⟨by rw [h1, bs_data, bs_data, cmpB_eq], h2.symm⟩

def encP (p : Pr) : List Value := [.string (bs p.1), .string (bs p.2)]
theorem encP_two (p : Pr) : (encP p).length = 2 := rfl
theorem encP_one (p : Pr) : ∀ v ∈ encP p, v.oneCell' = true := fun v hv => by
  simp [encP] at hv
  rcases hv with rfl | rfl <;> rfl

set_option maxHeartbeats 1000000 in
theorem byName_any (p q : Pr) (w : World) : Calls Tryz.prog 140 #[.agg #[.string (bs p.1), .string (bs p.2)], .agg #[.string (bs q.1), .string (bs q.2)]] w
    fun e w' => e = .returned (.int .i64 (cmpB p.1 q.1)) ∧ ∃ k os, w' = Sort.grow (w.drewN k) os := by
  have hcon := compare_any p.1 q.1
  have HC := Lib.hid hcon
  clear hcon
  go_enter Tryz.func140, Tryz.ntmps140
  go_wp2_with fail
  refine (HC.out _).mono ?_
  rintro e w' ⟨rfl, rfl⟩
  go_wp2_with fail
  go_ret
  exact ⟨rfl, 0, _, by rw [Sort.alloc_eq_grow, Sort.alloc_eq_grow, Sort.grow_grow]; rfl⟩

def byN (p q : Pr) : Int := cmpB p.1 q.1
theorem byN_lt (p q : Pr) : Go.Proofs.ltOf byN p q = decide (p.1 < q.1) := by
  unfold Go.Proofs.ltOf byN
  rw [decide_eq_decide]
  exact cmpB_lt
theorem byN_swo : Sort.SWO (Go.Proofs.ltOf byN) where
  irrefl x := by rw [byN_lt]; exact decide_eq_false (b_irrefl _)
  trans x y z h1 h2 := by
    rw [byN_lt, decide_eq_true_eq] at *
    exact b_trans h1 h2
  ntrans x y z h1 h2 := by
    rw [byN_lt, decide_eq_false_iff_not] at *
    intro h3
    by_cases h4 : y.1 < x.1
    · exact h2 (b_trans h4 h3)
    · exact h2 (by rw [← b_tri h1 h4]; exact h3)

theorem pair_ty : ElemTy Tryz.prog 22 128 (.agg #[.string ByteArray.empty, .string ByteArray.empty]) 2 32 :=
  ⟨Tryz.underlying22, info_parts (show (Tryz.prog.info? 128).map (fun i => (i.zero, i.size, i.bytes)) = some (some (.agg #[.string ByteArray.empty, .string ByteArray.empty]), 2, 32) by kernel_rfl), rfl⟩

def RetP (w : World) (l : List Pr) (e : Ending) (w' : World) : Prop := ∃ v, e = .returned v ∧ NBuf w w' 128 2 v l.length (pcs l)

set_option maxHeartbeats 1000000 in
set_option maxRecDepth 10000 in
theorem clone_any (v : Value) (l : List Pr) (w : World) (h : PsAt w v l) (hl : l.length ≤ 1000000) :
    Calls Tryz.prog 138 #[v] w (RetP w l) := by
  obtain ⟨A, c, rfl, hlc, hcm⟩ := h.shape
  have hnil := fun w => run_eql_slice_nil (P := Tryz.prog) w 22 128 A l.length c Tryz.underlying22
  rcases A with _ | A
  · have h0 : l.length = 0 := by
      rcases Nat.eq_zero_or_pos l.length with h0 | h0
      · exact h0
      · obtain ⟨p, hp⟩ : ∃ p, l[0]? = some p := ⟨_, List.getElem?_eq_getElem h0⟩
        obtain ⟨b, o, hA, _⟩ := h.at_ hp
        cases hA
    obtain rfl : l = [] := List.eq_nil_of_length_eq_zero h0
    clear h0 hnil
    have hnil := fun w => run_eql_slice_nil (P := Tryz.prog) w 22 128 none 0 c Tryz.underlying22
    go_enter Tryz.func138, Tryz.ntmps138
    go_wp2_with fail
    go_ret
    exact ⟨_, rfl, NBuf.nil (Below.refl _ _) _ _⟩
  · have hs := fun o => SlAt.src (P := Tryz.prog) (h.below (below_alloc1 w o)) (by omega) (t := 22) Tryz.underlying22 (pcs_one l)
    have HS := Lib.hid hs
    have hnb := NBuf.lit0 (Below.refl w.heap.size w) 128 2
    clear hs
    go_enter Tryz.func138, Tryz.ntmps138
    go_wp2_with (at_builtin; refine wpList_append_el rfl (.tmp 5) (.tmp 6) 22 22 rfl pair_ty rfl hnb.buf rfl (HS.out _) (by simp only [maxLen]; omega) (by omega) ?_; intro v' w' hb ha hg; have hn2 := hnb.step hb ha hg; clear hb ha hg)
    go_ret
    rw [Nat.zero_add, List.nil_append] at hn2
    exact ⟨_, rfl, hn2⟩

set_option maxHeartbeats 1000000 in
set_option maxRecDepth 100000 in
theorem sortNone_any (A : Option Addr) (c : Nat) (w : World) :
    Calls Tryz.prog 139 #[.slice A 0 c, .func (.func 140) #[] #[]] w fun e w' => e = .returned (.tuple #[]) ∧ w = w' := by
  have hi : ∀ w, Calls Tryz.prog 159 #[.slice A 0 c, .int .i64 0, .int .i64 0, .func (.func 140) #[] #[]] w fun e w' => e = .returned (.tuple #[]) ∧ w = w' := by
    intro w
    go_enter Tryz.func159, Tryz.ntmps159
    go_wp2_with fail
    go_loop [8] (fun i => i = .int .i64 1) (fun _ => 0)
    case atStart => rfl
    case round =>
      obtain rfl := hrel
      go_wp2_with fail
      go_end0
      exact ⟨rfl, rfl⟩
  have HI := Lib.hid hi
  clear hi
  have hq : ∀ (q : Int) (w : World), Calls Tryz.prog 151 #[.slice A 0 c, .int .i64 0, .int .i64 0, .int .i64 q, .func (.func 140) #[] #[]] w fun e w' => e = .returned (.tuple #[]) ∧ w = w' := by
    intro q w
    go_enter Tryz.func151, Tryz.ntmps151
    go_wp2_with fail
    go_loop [1, 2, 3, 10, 11] (fun a b l x y => a = .int .i64 0 ∧ b = .int .i64 0 ∧ l = .int .i64 q ∧ x = .bool true ∧ y = .bool true) (fun _ _ _ _ _ => 0)
    case atStart => exact ⟨rfl, rfl, rfl, rfl, rfl⟩
    case round =>
      obtain ⟨rfl, rfl, rfl, rfl, rfl⟩ := hrel
      go_wp2_with fail
      refine (HI.out _).mono ?_
      rintro e w' ⟨rfl, rfl⟩
      go_wp2_with fail
      refine bodyPost_ret (results_none rfl _ _ _) rfl ?_
      exact ⟨rfl, rfl⟩
  have HQ := Lib.hid hq
  clear hq
  have hb := Tryz.bits_Len 0 w (by omega) (by omega)
  have hb2 : Calls Tryz.prog 152 #[.int .u64 0] w fun e w' => (∃ q : Int, e = .returned (.int .i64 q)) ∧ w = w' := hb.mono fun _ _ ⟨h1, h2⟩ => ⟨⟨_, h1⟩, h2.symm⟩
  have HB := Lib.hid hb2
  clear hb hb2
  go_enter Tryz.func139, Tryz.ntmps139
  go_wp2_with fail
  refine HB.out.mono ?_
  rintro e w' ⟨⟨q, rfl⟩, rfl⟩
  go_wp2_with fail
  refine (HQ.out q _).mono ?_
  rintro e w' ⟨rfl, rfl⟩
  go_wp2_with fail
  go_end0
  exact ⟨rfl, rfl⟩

set_option maxHeartbeats 1000000 in
set_option maxRecDepth 10000 in
theorem sortBuf_any (b o c : Nat) (l : List Pr) (w0 w : World) (h : NBuf w0 w 128 2 (.slice (some ⟨b, o, none⟩) l.length c) l.length (pcs l)) (h0 : 0 < l.length) (hl : l.length ≤ 1000000) :
    Calls Tryz.prog 139 #[.slice (some ⟨b, o, none⟩) l.length c, .func (.func 140) #[] #[]] w
      fun e w' => e = .returned (.tuple #[]) ∧ ∃ m : List Pr, m.Perm l ∧ Asc m ∧ NBuf w0 w' 128 2 (.slice (some ⟨b, o, none⟩) l.length c) l.length (pcs m) := by
  have hsz : l.toArray.size = l.length := rfl
  have hblk : b < w.heap.size := h.buf.lt h0 b rfl
  have hB : w0.heap.size ≤ b := h.new b rfl
  have eg : ∀ args w, (callFunc 140 args).run Tryz.prog w = .ok (.enter 140 args) w := enters_of Tryz.func140 (by kernel_rfl) rfl
  have hH : Sort.HoldsK encP 2 w b o l.toArray := Buf.holdsK encP_two (d := l.toArray) h.buf
  have hcmp : Go.Proofs.CmpLays Tryz.prog 140 #[] encP 2 byN b o l.toArray.size w := fun _ _ _ _ x y => byName_any x y _
  have hlim : Lib.bitLen l.toArray.size < 4611686018427387904 := Nat.lt_of_le_of_lt (Lib.bitLen_le l.toArray.size 62 (by omega) (by omega)) (by omega)
  have hp := Go.Proofs.AnyQ.pdqsortCmpFunc_all (P := Tryz.prog) (ρ := Tryz.pdqP_ren) Tryz.pdqP 2 Tryz.isAgg128 Tryz.sizeOf128 encP byN 140 #[] byN_swo b o c l.toArray w eg hcmp ⟨encP_two, encP_one, hH, hblk⟩ (l.toArray.size + 1) 0 l.toArray.size (Lib.bitLen l.toArray.size) l.toArray w (by omega) rfl (Go.Proofs.SWK.start hH) (Nat.zero_le _) (Nat.le_refl _) (by omega) hlim (Or.inl rfl)
  have hs := Sort.pdq_sorts (Go.Proofs.ltOf byN) byN_swo l.toArray 0 l.toArray.size (Lib.bitLen l.toArray.size) true true (Nat.zero_le _) (Nat.le_refl _) (Or.inl rfl)
  have hq : Calls Tryz.prog 151 #[.slice (some ⟨b, o, none⟩) l.length c, .int .i64 0, .int .i64 l.length, .int .i64 (Lib.bitLen l.length : Nat), .func (.func 140) #[] #[]] w
      fun e w' => e = .returned (.tuple #[]) ∧ ∃ m : List Pr, m.Perm l ∧ Asc m ∧ NBuf w0 w' 128 2 (.slice (some ⟨b, o, none⟩) l.length c) l.length (pcs m) := by
    refine Calls.mono hp ?_
    rintro e w' ⟨h1, n, os, rfl⟩
    obtain ⟨p1, p2⟩ := permIn_list hs.1
    have p4 := sortedIn_list (d := Sort.pdq (Go.Proofs.ltOf byN) l.toArray 0 l.toArray.size (Lib.bitLen l.toArray.size) true true) (by rw [p1]; exact hs.2)
    generalize Sort.pdq (Go.Proofs.ltOf byN) l.toArray 0 l.toArray.size (Lib.bitLen l.toArray.size) true true = d at *
    exact ⟨h1, d.toList, p2, p4.imp (fun hh => by rw [byN_lt, decide_eq_false_iff_not] at hh; exact hh), Buf.sortWorldK encP_two h.buf n d p1 h0 os, h.below.trans (sortWorldK_below encP 2 n d os hB hblk), h.new⟩
  have HQ := Lib.hid hq
  have hb := Tryz.bits_Len (l.length : Int) w (by omega) (by omega)
  have hb2 : Calls Tryz.prog 152 #[.int .u64 l.length] w fun e w' => e = .returned (.int .i64 (Lib.bitLen l.length : Nat)) ∧ w = w' := hb.mono fun _ _ ⟨h1, h2⟩ => ⟨by rw [h1, Int.toNat_natCast], h2.symm⟩
  have HB := Lib.hid hb2
  have wr : IntKind.u64.wrap (l.length : Int) = l.length := by rw [IntKind.wrap_u64]; omega
  have WR := Lib.hid wr
  clear hb hb2 hq hp hs hH hcmp hlim hsz eg h wr
  obtain ⟨Z, hZ⟩ : ∃ Z : Nat, Z = Lib.bitLen l.length := ⟨_, rfl⟩
  rw [← hZ] at HB HQ
  clear hZ
  go_enter Tryz.func139, Tryz.ntmps139
  go_wp2_with fail
  refine HB.out.mono ?_
  rintro e w' ⟨rfl, rfl⟩
  go_wp2_with fail
  refine HQ.out.mono ?_
  rintro e w' ⟨rfl, hm⟩
  have HM := Lib.hid hm
  clear hm
  go_wp2_with fail
  go_end0
  exact ⟨rfl, HM.out⟩

def RetMk (w : World) (l : List Pr) (e : Ending) (w' : World) : Prop := ∃ v m, e = .returned (.tuple #[v, .int .i64 (errL m)]) ∧ m.Perm l ∧ Asc m ∧ NBuf w w' 128 2 v m.length (pcs m)

set_option maxHeartbeats 1000000 in
set_option maxRecDepth 10000 in
theorem make_any (v : Value) (l : List Pr) (w : World) (h : PsAt w v l) (hl : l.length ≤ 1000000) (hp : ∀ p ∈ l, p.1.length ≤ 1000000000000) :
    Calls Tryz.prog 115 #[v] w (RetMk w l) := by
  have hc := clone_any v l w h hl
  have HC := Lib.hid hc
  clear hc
  obtain ⟨A, c, rfl, hlc, hcm⟩ := h.shape
  go_enter Tryz.func115, Tryz.ntmps115
  go_wp2_with fail
  refine HC.out.mono ?_
  rintro e w1 ⟨v1, rfl, hn⟩
  obtain ⟨A1, c1, rfl, hc1⟩ := hn.buf.shape
  rcases Nat.eq_zero_or_pos l.length with h0 | h0
  · obtain rfl : l = [] := List.eq_nil_of_length_eq_zero h0
    have hk := lcheck_any (.slice A1 0 c1) [] w1 hn.slice hp
    have HK := Lib.hid hk
    have HN := Lib.hid hn
    clear hk hn h0 hl hp
    go_wp2_with fail
    refine (sortNone_any A1 c1 w1).mono ?_
    rintro e w' ⟨rfl, rfl⟩
    go_wp2_with fail
    refine HK.out.mono ?_
    rintro e w2 ⟨rfl, hb⟩
    have HN2 := Lib.hid (HN.out.then_below hb)
    clear hb
    go_wp2_with fail
    go_ret2
    exact ⟨_, [], rfl, .refl _, by simp [Asc], HN2.out⟩
  · obtain ⟨b, o, hA, _⟩ := hn.buf.some_at h0
    subst hA
    have hs := sortBuf_any b o c1 l w w1 hn h0 hl
    have HS := Lib.hid hs
    clear hs hn
    go_wp2_with fail
    refine HS.out.mono ?_
    rintro e w2 ⟨rfl, m, hm1, hm2, hn⟩
    have hml : m.length = l.length := hm1.length_eq
    have hn2 : NBuf w w2 128 2 (.slice (some ⟨b, o, none⟩) l.length c1) m.length (pcs m) := by rw [hml]; exact hn
    have hk := lcheck_any _ m w2 hn2.slice (fun p hp' => hp p (hm1.mem_iff.1 hp'))
    have HK := Lib.hid hk
    have HN := Lib.hid hn2
    have HM := Lib.hid hm1
    clear hk hn hn2 hml hm1
    go_wp2_with fail
    refine HK.out.mono ?_
    rintro e w3 ⟨rfl, hb⟩
    have HN2 := Lib.hid (HN.out.then_below hb)
    clear hb
    go_wp2_with fail
    go_ret2
    exact ⟨_, m, rfl, HM.out, hm2, HN2.out⟩

end Go.Proofs.YtgabmfibfikdbaaGreatDoor

/-
  Layer 6: the walks of label's Compare and String.
-/
namespace Go.Proofs.YtgabmfibfikdbaaGreatDoor
open Go.RowKit Go.Bar Go.Bar.Leb Go.Bar.Lab

set_option maxHeartbeats 1000000 in
theorem byBoth_any (p q : Pr) (w : World) : Calls Tryz.prog 78 #[.agg #[.string (bs p.1), .string (bs p.2)], .agg #[.string (bs q.1), .string (bs q.2)]] w
    (RetBelow w (.int .i64 (cmpP p q))) := by
  have hcon := compare_any p.1 q.1
  have hcon2 := compare_any p.2 q.2
  have hbl : Below w.heap.size w ((w.alloc (.cells #[.string (bs p.1), .string (bs p.2)] 128)).alloc (.cells #[.string (bs q.1), .string (bs q.2)] 128)) := below_trans (below_alloc1 _ _) (below_alloc1 _ _)
  unfold cmpP
  by_cases h0 : cmpB p.1 q.1 = 0
  · rw [if_neg (by omega)]
    rw [h0] at hcon
    have HC := Lib.hid hcon
    have HC2 := Lib.hid hcon2
    clear hcon hcon2 h0
    go_enter Tryz.func78, Tryz.ntmps78
    go_wp2_with fail
    refine (HC.out _).mono ?_
    rintro e w' ⟨rfl, rfl⟩
    go_wp2_with fail
    refine (HC2.out _).mono ?_
    rintro e w' ⟨rfl, rfl⟩
    go_wp2_with fail
    go_ret
    exact ⟨rfl, hbl⟩
  · rw [if_pos h0]
    have hb : (cmpB p.1 q.1 != 0) = true := by rw [bne_iff_ne]; exact h0
    obtain ⟨z, hz⟩ : ∃ z, cmpB p.1 q.1 = z := ⟨_, rfl⟩
    rw [hz] at hcon hb ⊢
    have HC := Lib.hid hcon
    clear hcon hcon2 h0 hz
    go_enter Tryz.func78, Tryz.ntmps78
    go_wp2_with fail
    refine (HC.out _).mono ?_
    rintro e w' ⟨rfl, rfl⟩
    go_wp2_with fail
    go_ret
    exact ⟨rfl, hbl⟩

theorem cmpL_step {a b : List Pr} {k : Nat} {p q : Pr} (ha : a[k]? = some p) (hb : b[k]? = some q) : cmpL (a.drop k) (b.drop k) = if cmpP p q ≠ 0 then cmpP p q else cmpL (a.drop (k + 1)) (b.drop (k + 1)) := by
  obtain ⟨h1, rfl⟩ := List.getElem?_eq_some_iff.1 ha
  obtain ⟨h2, rfl⟩ := List.getElem?_eq_some_iff.1 hb
  rw [List.drop_eq_getElem_cons h1, List.drop_eq_getElem_cons h2]
  rfl
theorem cmpL_right {a b : List Pr} {k : Nat} (ha : k < a.length) (hb : b.length ≤ k) : cmpL (a.drop k) (b.drop k) = 1 := by
  rw [List.drop_eq_getElem_cons ha, List.drop_of_length_le hb]
  rfl
theorem cmpL_end {a b : List Pr} : cmpL (a.drop a.length) (b.drop a.length) = if a.length < b.length then -1 else 0 := by
  rw [List.drop_length]
  split
  · rename_i h
    rw [List.drop_eq_getElem_cons h]
    rfl
  · rename_i h
    rw [List.drop_of_length_le (by omega)]
    rfl

set_option maxHeartbeats 4000000 in
set_option maxRecDepth 10000 in
theorem compareFunc_any (v v' : Value) (a b : List Pr) (w : World) (h : PsAt w v a) (h' : PsAt w v' b) :
    Calls Tryz.prog 77 #[v, v', .func (.func 78) #[] #[]] w (RetBelow w (.int .i64 (cmpL a b))) := by
  obtain ⟨A, c, rfl, hlc, hcm⟩ := h.shape
  obtain ⟨A', c', rfl, hlc', hcm'⟩ := h'.shape
  unfold maxLen at hcm hcm'
  obtain ⟨Z, hZ⟩ : ∃ Z, Z = cmpL a b := ⟨_, rfl⟩
  rw [← hZ]
  have HZ := Lib.hid hZ
  clear hZ
  go_enter Tryz.func77, Tryz.ntmps77
  go_wp2_with fail
  go_loopw [13] (fun i wr => ∃ k : Nat, k ≤ a.length ∧ i = .int .i64 k ∧ Below w.heap.size w wr ∧ Hid (Z = cmpL (a.drop k) (b.drop k))) (fun i _ => a.length - (intOf i).toNat)
  case atStart => exact ⟨0, Nat.zero_le _, rfl, Below.refl _ _, HZ⟩
  case round =>
    obtain ⟨k, hk, rfl, hbl, hz⟩ := hrel
    by_cases hgo : k < a.length
    · obtain ⟨p, hpk⟩ : ∃ p, a[k]? = some p := ⟨_, List.getElem?_eq_getElem hgo⟩
      obtain ⟨ba, oa, rfl, hba, g1, g2⟩ := (h.below hbl).at_ hpk
      by_cases hgb : k < b.length
      · obtain ⟨q, hqk⟩ : ∃ q, b[k]? = some q := ⟨_, List.getElem?_eq_getElem hgb⟩
        obtain ⟨bb, ob, rfl, hbb, f1, f2⟩ := (h'.below hbl).at_ hqk
        have hd : decide ((b.length : Int) ≤ (k : Int)) = false := decide_eq_false (by omega)
        have HS := Lib.hid (cmpL_step hpk hqk)
        have hc := byBoth_any p q
        clear hpk hqk
        have hbl2 : Below w.heap.size w ((wr.alloc (.cells #[.string (bs p.1), .string (bs p.2)] 128)).alloc (.cells #[.string (bs q.1), .string (bs q.2)] 128)) := below_trans (below_trans hbl (below_alloc1 _ _)) (below_alloc1 _ _)
        by_cases h0 : cmpP p q = 0
        · have hz2 : Z = cmpL (a.drop (k + 1)) (b.drop (k + 1)) := by rw [hz.out, HS.out, if_neg (by omega)]
          rw [h0] at hc
          have HC := Lib.hid hc
          have HZ2 := Lib.hid hz2
          clear hc hz2 h0 hz
          go_wp2_with fail
          refine (HC.out _).mono ?_
          rintro e w2 ⟨rfl, h2⟩
          have hbl3 := below_trans hbl2 h2
          clear h2
          go_wp2_with fail
          go_roundw
          case rel => exact ⟨k + 1, by omega, by go_num, hbl3, HZ2⟩
          case measure => simp [intOf]; omega
        · have hz2 : Z = cmpP p q := by rw [hz.out, HS.out, if_pos h0]
          have hb : (cmpP p q != 0) = true := by rw [bne_iff_ne]; exact h0
          rw [← hz2] at hc hb
          have HC := Lib.hid hc
          clear hc hz2 h0 hz
          go_wp2_with fail
          refine (HC.out _).mono ?_
          rintro e w2 ⟨rfl, h2⟩
          have hbl3 := below_trans hbl2 h2
          clear h2
          go_wp2_with fail
          go_ret
          exact ⟨rfl, hbl3⟩
      · have HZ2 := Lib.hid (show Z = 1 by rw [hz.out, cmpL_right hgo (by omega)])
        have hd : decide ((b.length : Int) ≤ (k : Int)) = true := decide_eq_true (by omega)
        clear hpk hz
        go_wp2_with fail
        go_ret
        exact ⟨by rw [HZ2.out]; rfl, below_trans hbl (below_alloc1 _ _)⟩
    · obtain rfl : k = a.length := by omega
      have hz2 := hz.out
      rw [cmpL_end] at hz2
      by_cases hlt : a.length < b.length
      · rw [if_pos hlt] at hz2
        have HZ2 := Lib.hid hz2
        clear hz2 hz
        go_wp2_with fail
        go_ret
        exact ⟨by rw [HZ2.out]; rfl, hbl⟩
      · rw [if_neg hlt] at hz2
        have HZ2 := Lib.hid hz2
        have hd : decide ((a.length : Int) < (b.length : Int)) = false := decide_eq_false (by omega)
        clear hz2 hz
        go_wp2_with fail
        go_ret
        exact ⟨by rw [HZ2.out]; rfl, hbl⟩

set_option maxHeartbeats 1000000 in
theorem lcompare_any (v v' : Value) (a b : List Pr) (w : World) (h : PsAt w v a) (h' : PsAt w v' b) :
    Calls Tryz.prog 38 #[v, v'] w (RetBelow w (.int .i64 (cmpL a b))) := by
  have hc := compareFunc_any v v' a b w h h'
  obtain ⟨Z, hZ⟩ : ∃ Z, cmpL a b = Z := ⟨_, rfl⟩
  rw [hZ] at hc ⊢
  have HC := Lib.hid hc
  clear hc hZ h h'
  go_enter Tryz.func38, Tryz.ntmps38
  go_wp2_with fail
  refine HC.out.mono ?_
  rintro e w2 ⟨rfl, h2⟩
  go_wp2_with fail
  go_ret
  exact ⟨rfl, h2⟩

end Go.Proofs.YtgabmfibfikdbaaGreatDoor

/-
  strings.Builder: the walks of copyCheck, WriteByte, WriteString at this dump; its String is the kit's.
-/
namespace Go.Proofs.YtgabmfibfikdbaaGreatDoor
open Go.RowKit Go.Bar

def SbFr (b : Nat) (w w' : World) : Prop := ∀ k, k < w.heap.size → k ≠ b → (∀ cur fr, w.heap[k]? ≠ some (.cells cur 5 fr)) → w'.heap[k]? = w.heap[k]?
theorem SbFr.blk {b : Nat} {w w' : World} (h : SbFr b w w') {M : Nat} {T : TypeId} {cur : Array Value} (hb : Blk w M T cur) (hne : M ≠ b) (hT : T ≠ 5) : Blk w' M T cur :=
  (h M hb.lt hne (fun c fr hc => by unfold Blk at hb; rw [hb] at hc; injection hc with hc; injection hc with _ hc _; exact hT hc)).trans hb

end Go.Proofs.YtgabmfibfikdbaaGreatDoor

/-
  Layer 6: the walks of label's String and Take.
-/
namespace Go.Proofs.YtgabmfibfikdbaaGreatDoor
open Go.RowKit Go.Bar Go.Bar.Leb Go.Bar.Lab

theorem snoc_val (ps : List Pr) (p : Pr) : pcs (ps ++ [p]) = pcs ps ++ [.string (bs p.1), .string (bs p.2)] := pcs_snoc ps p

def TkS (s0 : List Pr × List UInt8 × Nat) (n : Nat) (s : List UInt8) (e : Nat) (ps : List Pr) : Prop :=
  if e = 0 then s0 = (if (tp n s).2.2 ≠ 0 then ([], [], (tp n s).2.2) else (ps ++ (tp n s).1, (tp n s).2.1, 0)) else s0 = ([], [], e)
theorem TkS.step {s0 : List Pr × List UInt8 × Nat} {n : Nat} {s a s1 b s2 : List UInt8} {ps : List Pr} (h : TkS s0 (n + 1) s 0 ps) (h1 : takeText s 40 = (a, s1, 0)) (h2 : takeText s1 40 = (b, s2, 0)) : TkS s0 n s2 0 (ps ++ [(a, b)]) := by
  unfold TkS at *
  rw [if_pos rfl] at *
  rw [h]
  simp only [tp, h1, h2]
  simp only [ne_eq, not_true, if_false]
  split
  · rename_i h3
    simp
  · rename_i h3
    simp
theorem TkS.bad1 {s0 : List Pr × List UInt8 × Nat} {n e1 : Nat} {s a s1 : List UInt8} {ps : List Pr} (h : TkS s0 (n + 1) s 0 ps) (h1 : takeText s 40 = (a, s1, e1)) (he : e1 ≠ 0) : s0 = ([], [], e1) := by
  unfold TkS at *
  rw [if_pos rfl] at h
  rw [h]
  simp [tp, h1, he]
theorem TkS.bad2 {s0 : List Pr × List UInt8 × Nat} {n e2 : Nat} {s a s1 b s2 : List UInt8} {ps : List Pr} (h : TkS s0 (n + 1) s 0 ps) (h1 : takeText s 40 = (a, s1, 0)) (h2 : takeText s1 40 = (b, s2, e2)) (he : e2 ≠ 0) : s0 = ([], [], e2) := by
  unfold TkS at *
  rw [if_pos rfl] at h
  rw [h]
  simp [tp, h1, h2, he]
theorem TkS.bad {s0 : List Pr × List UInt8 × Nat} {n e : Nat} (s : List UInt8) (ps : List Pr) (h : s0 = ([], [], e)) (he : e ≠ 0) : TkS s0 n s e ps := by
  unfold TkS; rw [if_neg he]; exact h
theorem TkS.end_ {s0 : List Pr × List UInt8 × Nat} {s : List UInt8} {ps : List Pr} (h : TkS s0 0 s 0 ps) : s0 = (ps, s, 0) := by
  unfold TkS at h
  simpa [tp] using h

theorem set_ty : ElemTy Tryz.prog 43 128 (.agg #[.string ByteArray.empty, .string ByteArray.empty]) 2 32 :=
  ⟨Tryz.underlying43, info_parts (show (Tryz.prog.info? 128).map (fun i => (i.zero, i.size, i.bytes)) = some (some (.agg #[.string ByteArray.empty, .string ByteArray.empty]), 2, 32) by kernel_rfl), rfl⟩

def RetTk (w : World) (s : List UInt8) (e : Ending) (w' : World) : Prop :=
  ∃ v l r c, Lab.take s = (l, r, c) ∧ e = .returned (.tuple #[v, .string (bs r), .int .i64 (c : Nat)]) ∧ NBuf w w' 128 2 v l.length (pcs l)

set_option maxHeartbeats 8000000 in
set_option maxRecDepth 10000 in
theorem take_any (s : List UInt8) (w : World) (hs : s.length ≤ 1000000000000) :
    Calls Tryz.prog 76 #[.string (bs s)] w (RetTk w s) := by
  obtain ⟨n, r, e, hm⟩ : ∃ n r e, takeMost s 8 = (n, r, e) := ⟨_, _, _, rfl⟩
  have hp := takeMost_prop s 8 (by omega)
  rw [hm] at hp
  simp only at hp
  have hn8 : e = 0 → n ≤ 8 := fun he => by
    subst he
    exact takeMost_le8 hm
  obtain ⟨s0, hs0⟩ : ∃ s0, s0 = (if e ≠ 0 then (([], [], e) : List Pr × List UInt8 × Nat) else if (tp n r).2.2 ≠ 0 then ([], [], (tp n r).2.2) else ((tp n r).1, (tp n r).2.1, 0)) := ⟨_, rfl⟩
  have htk : Lab.take s = if s0.2.2 ≠ 0 then ([], [], s0.2.2) else if chk s0.1 = true then s0 else ([], [], 3) := by
    unfold Lab.take
    rw [hm]
    simp only
    by_cases he : e = 0
    · subst he
      rw [if_neg (by simp)] at hs0
      rw [if_neg (by simp)]
      by_cases h2 : (tp n r).2.2 = 0
      · rw [if_neg (by simp [h2])] at hs0
        subst hs0
        simp [h2]
      · rw [if_pos h2] at hs0
        subst hs0
        simp [h2]
    · rw [if_pos he] at hs0 ⊢
      subst hs0
      simp [he]
  have hst : TkS s0 n r e [] := by
    unfold TkS
    split
    · rename_i he
      rw [hs0, if_neg (by simp [he])]
      rfl
    · rename_i he
      rw [hs0, if_pos he]
  have HM := Lib.hid (takeMost_of (bs s) 8 hm)
  have HTK := Lib.hid htk
  have HST := Lib.hid hst
  have HN8 := Lib.hid hn8
  have hrl : r.length ≤ s.length := hp.2.1
  clear hm hp hn8 htk hst hs0
  go_enter Tryz.func76, Tryz.ntmps76
  go_wp2_with fail
  refine (HM.out _ (by rw [bs_size]; unfold maxLen; omega) (by omega) (by omega)).mono ?_
  rintro e' w1 ⟨rfl, q, rfl⟩
  go_wp2_with fail
  go_loopw [5, 0, 6, 7] (fun a b c d wr => ∃ (n : Nat) (s' : List UInt8) (e : Nat) (ps : List Pr), a = .int .i64 n ∧ b = .string (bs s') ∧ c = .int .i64 e ∧ Hid (e = 0 → n ≤ 8 - ps.length ∧ ps.length ≤ 8) ∧ ps.length ≤ 9 ∧ s'.length ≤ s.length ∧ Hid (NBuf w wr 128 2 d ps.length (pcs ps)) ∧ Hid (TkS s0 n s' e ps) ∧ Hid (∀ p ∈ ps, p.1.length ≤ s.length)) (fun a _ _ _ _ => (intOf a).toNat)
  case atStart => exact ⟨n, r, e, [], rfl, rfl, rfl, Lib.hid (fun he => ⟨HN8.out he, by simp⟩), by simp, hrl, Lib.hid (NBuf.nil (below_draws _ _) _ _), HST, Lib.hid (by simp)⟩
  case round =>
    clear HN8 HST hrl
    obtain ⟨n, s', e, ps, rfl, rfl, rfl, hn8, hps, hsl, hnb, hts, hpl⟩ := hrel
    obtain ⟨A, c, rfl, hc⟩ := hnb.out.buf.shape
    by_cases he : e = 0
    · subst he
      rcases n with _ | n
      · have hs0 := hts.out.end_
        have hlk := lcheck_any _ ps wr hnb.out.slice (fun p hp => by have := hpl.out p hp; omega)
        by_cases hck : chk ps = true
        · have HTK2 := Lib.hid (show Lab.take s = (ps, s', 0) by rw [HTK.out, hs0]; simp [hck])
          rw [show errL ps = 0 by unfold errL; rw [if_pos hck]] at hlk
          have HK := Lib.hid hlk
          clear hs0 hlk hck
          go_wp2_with fail
          refine HK.out.mono ?_
          rintro e w2 ⟨rfl, hb⟩
          have HN4 := Lib.hid (hnb.out.then_below hb)
          clear hb
          go_wp2_with fail
          go_ret3
          exact ⟨_, _, _, _, HTK2.out, rfl, HN4.out⟩
        · have HTK2 := Lib.hid (show Lab.take s = ([], [], 3) by rw [HTK.out, hs0]; simp [hck])
          rw [show errL ps = 12 by unfold errL; rw [if_neg hck]] at hlk
          have HK := Lib.hid hlk
          clear hs0 hlk hck
          go_wp2_with fail
          refine HK.out.mono ?_
          rintro e w2 ⟨rfl, hb⟩
          have HN4 := Lib.hid (hnb.out.then_below hb)
          clear hb
          go_wp2_with fail
          go_ret3
          exact ⟨_, _, _, _, HTK2.out, rfl, NBuf.nil HN4.out.below _ _⟩
      · have hpl8 : ps.length < 8 := by have := hn8.out rfl; omega
        have hn7 : n ≤ 7 := by have := hn8.out rfl; omega
        have hnl : n + 1 + ps.length ≤ 8 := by have := hn8.out rfl; omega
        have h0 : decide (0 < ((n : Int) + 1)) = true := decide_eq_true (by omega)
        obtain ⟨x, s1, e1, h1⟩ : ∃ a b c, takeText s' 40 = (a, b, c) := ⟨_, _, _, rfl⟩
        obtain ⟨y, s2, e2, h2⟩ : ∃ a b c, takeText s1 40 = (a, b, c) := ⟨_, _, _, rfl⟩
        have hl1 := takeText_len (by omega) h1
        have hl2 := takeText_len (by omega) h2
        have T1 := Lib.hid (takeText_of (bs s') 40 h1)
        have T2 := Lib.hid (takeText_of (bs s1) 40 h2)
        have hwr := hnb.out.below.size
        by_cases he1 : e1 = 0
        · subst he1
          by_cases he2 : e2 = 0
          · subst he2
            have HT2 := Lib.hid (hts.out.step h1 h2)
            clear h1 h2
            go_wp2_with fail
            refine (T1.out _ (by rw [bs_size]; unfold maxLen; omega) (by omega) (by omega)).mono ?_
            rintro e' w2 ⟨rfl, q1, rfl⟩
            go_wp2_with fail
            refine (T2.out _ (by rw [bs_size]; unfold maxLen; omega) (by omega) (by omega)).mono ?_
            rintro e' w2 ⟨rfl, q2, rfl⟩
            have HN3 := Lib.hid (hnb.out.then_below ((((below_draws _ q1).after_alloc (.cells #[.string { data := #[] }, .string { data := #[] }] 128)).setCell (p := ⟨wr.heap.size, 0, none⟩) (Nat.le_refl _) (.string (bs x))).drewN' q2 |>.setCell (p := ⟨wr.heap.size, 1, none⟩) (Nat.le_refl _) (.string (bs y))))
            go_wp2_with (at_builtin; refine wpList_append_nlit rfl (.tmp 39) (.tmp 41) 43 rfl set_ty rfl HN3.out rfl (by simp) rfl (by simp [Value.oneCell']) (by simp only [maxLen]; omega) (by omega) ?_; intro v3 w3 hn3 _)
            have HN4 := Lib.hid hn3
            clear hn3 HN3
            go_roundw
            case rel => exact ⟨n, s2, 0, ps ++ [(x, y)], rfl, (by first | rfl | trivial), (by first | rfl | trivial), Lib.hid (fun _ => by rw [List.length_append]; simp; omega), by rw [List.length_append]; simp; omega, by omega, by rw [List.length_append, snoc_val]; exact HN4, HT2, Lib.hid (fun p hp => by rw [List.mem_append, List.mem_singleton] at hp; rcases hp with hp | rfl; exact hpl.out p hp; exact Nat.le_trans hl1.1 hsl)⟩
            case measure => simp [intOf]; try omega
          · have HT2 := Lib.hid (hts.out.bad2 h1 h2 he2)
            have HE := Lib.hid he2
            clear h1 h2 he2
            go_wp2_with fail
            refine (T1.out _ (by rw [bs_size]; unfold maxLen; omega) (by omega) (by omega)).mono ?_
            rintro e' w2 ⟨rfl, q1, rfl⟩
            go_wp2_with fail
            refine (T2.out _ (by rw [bs_size]; unfold maxLen; omega) (by omega) (by omega)).mono ?_
            rintro e' w2 ⟨rfl, q2, rfl⟩
            have HN3 := Lib.hid (hnb.out.then_below ((((below_draws _ q1).after_alloc (.cells #[.string { data := #[] }, .string { data := #[] }] 128)).setCell (p := ⟨wr.heap.size, 0, none⟩) (Nat.le_refl _) (.string (bs x))).drewN' q2 |>.setCell (p := ⟨wr.heap.size, 1, none⟩) (Nat.le_refl _) (.string (bs y))))
            go_wp2_with (at_builtin; refine wpList_append_nlit rfl (.tmp 39) (.tmp 41) 43 rfl set_ty rfl HN3.out rfl (by simp) rfl (by simp [Value.oneCell']) (by simp only [maxLen]; omega) (by omega) ?_; intro v3 w3 hn3 _)
            have HN4 := Lib.hid hn3
            clear hn3 HN3
            go_roundw
            case rel => exact ⟨n, s2, e2, ps ++ [(x, y)], rfl, rfl, rfl, Lib.hid (fun h => absurd h HE.out), by rw [List.length_append]; simp; omega, by omega, by rw [List.length_append, snoc_val]; exact HN4, Lib.hid (TkS.bad _ _ HT2.out HE.out), Lib.hid (fun p hp => by rw [List.mem_append, List.mem_singleton] at hp; rcases hp with hp | rfl; exact hpl.out p hp; exact Nat.le_trans hl1.1 hsl)⟩
            case measure => simp [intOf]; try omega
        · have HT2 := Lib.hid (hts.out.bad1 h1 he1)
          have HE := Lib.hid he1
          have hb : ((e1 : Int) == 0) = false := by rw [beq_eq_false_iff_ne]; omega
          clear h1 h2 he1
          go_wp2_with fail
          refine (T1.out _ (by rw [bs_size]; unfold maxLen; omega) (by omega) (by omega)).mono ?_
          rintro e' w2 ⟨rfl, q1, rfl⟩
          have HN3 := Lib.hid (hnb.out.then_below (((below_draws _ q1).after_alloc (.cells #[.string { data := #[] }, .string { data := #[] }] 128)).setCell (p := ⟨wr.heap.size, 0, none⟩) (Nat.le_refl _) (.string (bs x))))
          go_wp2_with (at_builtin; refine wpList_append_nlit rfl (.tmp 39) (.tmp 41) 43 rfl set_ty rfl HN3.out rfl (by simp) rfl (by simp [Value.oneCell']) (by simp only [maxLen]; omega) (by omega) ?_; intro v3 w3 hn3 _)
          have HN4 := Lib.hid hn3
          clear hn3 HN3
          go_roundw
          case rel => exact ⟨n, s1, e1, ps ++ [(x, [])], rfl, rfl, rfl, Lib.hid (fun h => absurd h HE.out), by rw [List.length_append]; simp; omega, by omega, by rw [List.length_append, snoc_val]; exact HN4, Lib.hid (TkS.bad _ _ HT2.out HE.out), Lib.hid (fun p hp => by rw [List.mem_append, List.mem_singleton] at hp; rcases hp with hp | rfl; exact hpl.out p hp; exact Nat.le_trans hl1.1 hsl)⟩
          case measure => simp [intOf]; try omega
    · have hts2 : s0 = ([], [], e) := by have := hts.out; unfold TkS at this; rwa [if_neg he] at this
      have htk2 : Lab.take s = ([], [], e) := by rw [HTK.out, hts2]; simp [he]
      have HTK2 := Lib.hid htk2
      have hb : ((e : Int) == 0) = false := by rw [beq_eq_false_iff_ne]; omega
      have hb2 : ((e : Int) != 0) = true := by rw [bne_iff_ne]; omega
      have hbl := hnb.out.below
      clear hts2 htk2 he
      rcases n with _ | n
      · go_wp2_with fail
        go_ret3
        exact ⟨_, _, _, _, HTK2.out, rfl, NBuf.nil hbl _ _⟩
      · have h0 : decide (0 < ((n : Int) + 1)) = true := decide_eq_true (by omega)
        go_wp2_with fail
        go_ret3
        exact ⟨_, _, _, _, HTK2.out, rfl, NBuf.nil hbl _ _⟩

end Go.Proofs.YtgabmfibfikdbaaGreatDoor

/-
  strings.Cut at '=' and strings.SplitSeq at ',': the walks; the iterator's contract.
-/
namespace Go.Proofs.YtgabmfibfikdbaaGreatDoor
open Go.RowKit Go.Bar Go.Bar.Leb Go.Bar.Lab

attribute [local go_sem] Oper.semAt_some

theorem first_of : ∀ (l : List UInt8) (c : UInt8), Lib.indexByte l c = -1 ∧ c ∉ l ∨ ∃ k : Nat, Lib.indexByte l c = k ∧ l[k]? = some c ∧ c ∉ l.take k
  | [], c => .inl ⟨rfl, by simp⟩
  | b :: l, c => by
    unfold Lib.indexByte
    by_cases h : b = c
    · subst h
      rw [if_pos (by simp)]
      exact .inr ⟨0, rfl, rfl, by simp⟩
    · rw [if_neg (by simpa using h)]
      rcases first_of l c with ⟨h1, h2⟩ | ⟨k, h1, h2, h3⟩
      · rw [h1]
        exact .inl ⟨rfl, by simp [h2]; exact fun e => h e.symm⟩
      · rw [h1, if_neg (by simp)]
        exact .inr ⟨k + 1, by omega, by simpa using h2, by simp [h3]; exact fun e => h e.symm⟩
theorem split_at {l : List UInt8} {k : Nat} {c : UInt8} (h : l[k]? = some c) : l = l.take k ++ c :: l.drop (k + 1) := by
  obtain ⟨hl, hq⟩ := List.getElem?_eq_some_iff.1 h
  rw [← hq, List.getElem_cons_drop, List.take_append_drop]

set_option maxHeartbeats 1000000 in
set_option maxRecDepth 10000 in
theorem liteCut_any (s : List UInt8) (w : World) (hs : s.length ≤ 1000000000000) :
    Calls Tryz.prog 137 #[.string (bs s), .string { data := #[61] }] w (Quiet w (match cutEq s with | some p => .tuple #[.string (bs p.1), .string (bs p.2), .bool true] | none => .tuple #[.string (bs s), .string (bs []), .bool false])) := by
  have hi := fun w => Tryz.stringslite_Index_one (bs s) 61 w
  rcases first_of s 61 with ⟨h1, h2⟩ | ⟨k, h1, h2, h3⟩
  · rw [cutEq_none s h2]
    have hi2 : ∀ w, Calls Tryz.prog 150 #[.string (bs s), .string { data := #[61] }] w fun e w' => e = .returned (.int .i64 (-1)) ∧ w = w' := fun w => (hi w).mono fun _ _ ⟨g1, g2⟩ => ⟨by rw [g1, bs_data, h1], g2.symm⟩
    have HI := Lib.hid hi2
    clear hi hi2 h1 h2
    go_enter Tryz.func137, Tryz.ntmps137
    go_wp2_with fail
    refine (HI.out _).mono ?_
    rintro e w' ⟨rfl, rfl⟩
    go_wp2_with fail
    go_ret3
    exact ⟨rfl, 0, rfl⟩
  · have hc : cutEq s = some (s.take k, s.drop (k + 1)) := by
      conv => lhs; rw [split_at h2]
      exact cutEq_at _ _ h3
    rw [hc]
    have hkl : k < s.length := (List.getElem?_eq_some_iff.1 h2).1
    have hi2 : ∀ w, Calls Tryz.prog 150 #[.string (bs s), .string { data := #[61] }] w fun e w' => e = .returned (.int .i64 k) ∧ w = w' := fun w => (hi w).mono fun _ _ ⟨g1, g2⟩ => ⟨by rw [g1, bs_data, h1], g2.symm⟩
    have HI := Lib.hid hi2
    have hs1 := fun w => slice_to (P := Tryz.prog) (t := 9) Tryz.underlying9 s k (by omega) w
    have hs2 := fun w => slice_from (P := Tryz.prog) (t := 9) Tryz.underlying9 s (k + 1) (by omega) w
    rw [show ((k + 1 : Nat) : Int) = (k : Int) + 1 by omega] at hs2
    have hkw : IntKind.i64.wrap ((k : Int) + 1) = (k : Int) + 1 := IntWalk.i64_in _ ⟨by omega, by omega⟩
    have hk1 : (0 : Int) ≤ (k : Int) + 1 := by omega
    clear hi hi2 h1 h2 h3 hc
    go_enter Tryz.func137, Tryz.ntmps137
    go_wp2_with fail
    refine (HI.out _).mono ?_
    rintro e w' ⟨rfl, rfl⟩
    go_wp2_with fail
    go_quiet (fail)
    go_wp2_with fail
    go_ret3
    exact ⟨rfl, _, rfl⟩

set_option maxHeartbeats 1000000 in
theorem cut1_any (s : List UInt8) (w : World) (hs : s.length ≤ 1000000000000) :
    Calls Tryz.prog 114 #[.string (bs s), .string { data := #[61] }] w (Quiet w (match cutEq s with | some p => .tuple #[.string (bs p.1), .string (bs p.2), .bool true] | none => .tuple #[.string (bs s), .string (bs []), .bool false])) := by
  have hl := liteCut_any s w hs
  rcases hc : cutEq s with _ | ⟨a, b⟩
  · rw [hc] at hl
    have HL := Lib.hid hl
    clear hl hc
    go_enter Tryz.func114, Tryz.ntmps114
    go_wp2_with fail
    refine HL.out.mono ?_
    rintro e w' ⟨rfl, n, rfl⟩
    go_wp2_with fail
    go_ret3
    exact ⟨rfl, _, rfl⟩
  · rw [hc] at hl
    have HL := Lib.hid hl
    clear hl hc
    go_enter Tryz.func114, Tryz.ntmps114
    go_wp2_with fail
    refine HL.out.mono ?_
    rintro e w' ⟨rfl, n, rfl⟩
    go_wp2_with fail
    go_ret3
    exact ⟨rfl, _, rfl⟩

structure SpB (w : World) (B : Nat) (rest : List UInt8) : Prop where
  b0 : Blk w B 9 #[.string (bs rest)]
  b1 : Blk w (B + 1) 9 #[.string { data := #[44] }]
  b2 : Blk w (B + 2) 3 #[.int .i64 0]
theorem SpB.below {w w' : World} {B : Nat} {rest : List UInt8} (h : SpB w B rest) (hb : Below w.heap.size w w') : SpB w' B rest := ⟨h.b0.below hb, h.b1.below hb, h.b2.below hb⟩
theorem SpB.kept {w w' : World} {B : Nat} {rest : List UInt8} (h : SpB w B rest) (hb : ∀ k, B ≤ k → k < B + 3 → w'.heap[k]? = w.heap[k]?) : SpB w' B rest := ⟨(hb B (by omega) (by omega)).trans h.b0, (hb (B + 1) (by omega) (by omega)).trans h.b1, (hb (B + 2) (by omega) (by omega)).trans h.b2⟩
theorem SpB.set {w : World} {B : Nat} {rest : List UInt8} (h : SpB w B rest) (r : List UInt8) : SpB (w.setCell ⟨B, 0, none⟩ (.string (bs r))) B r :=
  ⟨h.b0.set 0 _, h.b1.other (by omega) 0 _, h.b2.other (by omega) 0 _⟩
def leftOf (w : World) (B : Nat) : Nat := match w.cell? ⟨B, 0, none⟩ with | some (.string z) => z.size | _ => 0
theorem leftOf_eq {w : World} {B : Nat} {rest : List UInt8} (h : SpB w B rest) : leftOf w B = rest.length := by
  unfold leftOf
  rw [h.b0.cell (i := 0) rfl]
  rfl

set_option maxHeartbeats 1000000 in
set_option maxRecDepth 10000 in
theorem split_seq (s : List UInt8) (hs : s.length ≤ 1000000000000) (n : Nat) (hn : 1 ≤ n) (B : Nat) (w : World) (h : SpB w B s) :
    SeqB Fence.wide n Tryz.prog 147 #[.pointer (some ⟨B + 1, 0, none⟩), .pointer (some ⟨B, 0, none⟩), .pointer (some ⟨B + 2, 0, none⟩)] (fun x : { x : List UInt8 // x.length ≤ s.length } => #[.string (bs x.1)]) B (B + 3) (fun xs => xs.map (·.1) = commas s) (fun pre => pre.map (·.1) <+: commas s) (commas s).length w := fun l J Jx W hW hJs hY h0 => by
  have h := h.below hW
  have hi := fun (r : List UInt8) w => Tryz.strings_Index_one (bs r) 44 w
  have HI := Lib.hid hi
  clear hi
  refine callsIn_of_wp Tryz.func147 rfl trivial ?_ rfl
  simp only [Tryz.ntmps147, List.size_toArray, List.length_cons, List.length_nil, Nat.reduceAdd, Nat.reduceSub, Array.replicate_succ, Array.replicate_zero, List.push_toArray, List.append_toArray, List.nil_append, List.cons_append]
  have c1 := h.b1.cell (i := 0) rfl
  gi_wp2
  clear c1
  gi_loopw [7] (fun _ wr => ∃ (pre : List { x : List UInt8 // x.length ≤ s.length }) (rest : List UInt8), Hid (commas s = pre.map (·.1) ++ commas rest) ∧ rest.length ≤ s.length ∧ Hid (SpB wr B rest) ∧ Hid (J pre wr)) (fun _ wr => leftOf wr B)
  case atStart => exact ⟨[], s, Lib.hid rfl, Nat.le_refl _, Lib.hid h, Lib.hid h0⟩
  case round =>
    obtain ⟨pre, rest, hc, hrl, hsp, hJ⟩ := hrel
    have a0 := hsp.out.b0.cell (i := 0) rfl
    have a1 := hsp.out.b1.cell (i := 0) rfl
    have a2 := hsp.out.b2.cell (i := 0) rfl
    rcases first_of rest 44 with ⟨h1, h2⟩ | ⟨k, h1, h2, h3⟩
    · have hr := commas_none rest h2
      have hI2 : ∀ w, CallsIn Fence.wide (n - 1) Tryz.prog 149 #[.string (bs rest), .string { data := #[44] }] w fun e w' => e = .returned (.int .i64 (-1)) ∧ w = w' := fun w => callsIn_wide.2 ((HI.out rest w).mono fun _ _ ⟨g1, g2⟩ => ⟨by rw [g1, bs_data, h1], g2.symm⟩)
      have hlen : pre.length < (commas s).length := by rw [hc.out, hr]; simp
      obtain ⟨fn, tmps, assign, body, hy, hR⟩ := hY pre ⟨rest, hrl⟩ wr hJ.out hlen
      have HR := Lib.hid hR
      have HI3 := Lib.hid hI2
      have HC := Lib.hid (show commas s = (pre ++ [(⟨rest, hrl⟩ : { x : List UInt8 // x.length ≤ s.length })]).map (·.1) by rw [hc.out, hr]; simp)
      clear h1 h2 hr hlen hI2 hR
      gi_wp2_with (refine ⟨trivial, ?_⟩; gi_at_call 149; refine (HI3.out _).mono ?_; rintro e w' ⟨rfl, rfl⟩)
      refine HR.out.mono ?_
      rintro e w' (⟨rfl, hJ1, hk1⟩ | ⟨rfl, hJx⟩)
      · have HJ1 := Lib.hid hJ1
        clear hJ1 hk1
        gi_wp2
        go_end0
        exact ⟨⟨_, rfl⟩, .inl ⟨_, HC.out.symm, HJ1.out⟩⟩
      · have HJ1 := Lib.hid hJx
        clear hJx
        gi_wp2
        go_end0
        exact ⟨⟨_, rfl⟩, .inr ⟨_, by rw [HC.out]; exact List.prefix_refl _, HJ1.out⟩⟩
    · have hkl : k < rest.length := (List.getElem?_eq_some_iff.1 h2).1
      have hr : commas rest = rest.take k :: commas (rest.drop (k + 1)) := by
        conv => lhs; rw [split_at h2]
        exact commas_at _ _ h3
      have hI2 : ∀ w, CallsIn Fence.wide (n - 1) Tryz.prog 149 #[.string (bs rest), .string { data := #[44] }] w fun e w' => e = .returned (.int .i64 k) ∧ w = w' := fun w => callsIn_wide.2 ((HI.out rest w).mono fun _ _ ⟨g1, g2⟩ => ⟨by rw [g1, bs_data, h1], g2.symm⟩)
      have hlen : pre.length < (commas s).length := by rw [hc.out, hr]; simp
      obtain ⟨fn, tmps, assign, body, hy, hR⟩ := hY pre ⟨rest.take k, by rw [List.length_take]; omega⟩ wr hJ.out hlen
      have HR := Lib.hid hR
      have HI3 := Lib.hid hI2
      have HC := Lib.hid (show commas s = (pre ++ [(⟨rest.take k, by rw [List.length_take]; omega⟩ : { x : List UInt8 // x.length ≤ s.length })]).map (·.1) ++ commas (rest.drop (k + 1)) by rw [hc.out, hr]; simp)
      have hs1 := fun w => slice_to (P := Tryz.prog) (t := 9) Tryz.underlying9 rest k (by omega) w
      have hs2 := fun w => slice_from (P := Tryz.prog) (t := 9) Tryz.underlying9 rest (k + 1) (by omega) w
      rw [show ((k + 1 : Nat) : Int) = (k : Int) + 1 by omega] at hs2
      have HS2 := Lib.hid hs2
      clear h1 h2 h3 hr hlen hI2 hR hs2
      gi_wp2_with (refine ⟨trivial, ?_⟩; gi_at_call 149; refine (HI3.out _).mono ?_; rintro e w' ⟨rfl, rfl⟩)
      refine HR.out.mono ?_
      rintro e w' (⟨rfl, hJ1, hk1⟩ | ⟨rfl, hJx⟩)
      · have hsp1 := hsp.out.kept hk1
        have HJ1 := Lib.hid (hJs _ _ (.string (bs (rest.drop (k + 1)))) hJ1)
        have HSP := Lib.hid (hsp1.set (rest.drop (k + 1)))
        have a0' := hsp1.b0.cell (i := 0) rfl
        have f0' := hsp1.b0.free 0
        have a1' := hsp1.b1.cell (i := 0) rfl
        have hs2 := HS2.out
        have HLO := Lib.hid (leftOf_eq hsp.out)
        clear hJ1 hk1 hsp1 a0 a1 a2
        gi_wp2
        go_roundw
        case rel => exact ⟨_, _, HC, by rw [List.length_drop]; omega, HSP, HJ1⟩
        case measure =>
          rw [leftOf_eq HSP.out, HLO.out, List.length_drop]
          omega
      · have HJ1 := Lib.hid hJx
        clear hJx
        gi_wp2
        refine bodyPost_ret (results_none rfl _ _ _) rfl ?_
        exact ⟨⟨_, rfl⟩, .inr ⟨_, by rw [HC.out]; exact List.prefix_append _ _, HJ1.out⟩⟩

set_option maxHeartbeats 1000000 in
theorem splitSeq_any (s : List UInt8) (w : World) :
    Calls Tryz.prog 113 #[.string (bs s), .string { data := #[44] }] w fun e w' => e = .returned (.func (.func 147) #[] #[.pointer (some ⟨w.heap.size + 1, 0, none⟩), .pointer (some ⟨w.heap.size, 0, none⟩), .pointer (some ⟨w.heap.size + 2, 0, none⟩)]) ∧
      w' = ((w.alloc (.cells #[.string (bs s)] 9)).alloc (.cells #[.string { data := #[44] }] 9)).alloc (.cells #[.int .i64 0] 3) := by
  have h1 : ∀ w, Calls Tryz.prog 136 #[.string (bs s), .string { data := #[44] }, .int .i64 0] w fun e w' => e = .returned (.func (.func 147) #[] #[.pointer (some ⟨w.heap.size + 1, 0, none⟩), .pointer (some ⟨w.heap.size, 0, none⟩), .pointer (some ⟨w.heap.size + 2, 0, none⟩)]) ∧
      w' = ((w.alloc (.cells #[.string (bs s)] 9)).alloc (.cells #[.string { data := #[44] }] 9)).alloc (.cells #[.int .i64 0] 3) := by
    intro w
    go_enter Tryz.func136, Tryz.ntmps136
    go_wp2_with fail
    go_ret
    exact ⟨rfl, rfl⟩
  have H1 := Lib.hid h1
  clear h1
  go_enter Tryz.func113, Tryz.ntmps113
  go_wp2_with fail
  refine (H1.out _).mono ?_
  rintro e w' ⟨rfl, rfl⟩
  go_wp2_with fail
  go_ret
  exact ⟨rfl, rfl⟩

end Go.Proofs.YtgabmfibfikdbaaGreatDoor
