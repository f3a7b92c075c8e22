/-
  Layer 6: the walk of label's Make: pairs, sorted by their names.
-/
import Derived.Test.YtjklcojnbcemoaaGreatDoorZLebA
import Derived.Test.YtjklcojnbcemoaaGreatDoorZLib13
import Derived.Test.YtjklcojnbcemoaaGreatDoorZShelf
import Derived.Lib.LazyBuf

namespace Go.Proofs.YtjklcojnbcemoaaGreatDoor
open Go.RowKit Go.Bar Go.Bar.Leb Go.Bar.Lab

theorem cmpB_eq : ∀ (a b : List UInt8), Lib.compareBytes a b = cmpB a b
  | [], [] => rfl
  | [], _ :: _ => by simp [Lib.compareBytes, cmpB]
  | _ :: _, [] => by simp [Lib.compareBytes, cmpB]
  | a :: x, b :: y => by
    have ih := cmpB_eq x y
    unfold cmpB at ih
    unfold Lib.compareBytes cmpB
    simp only [List.cons_lt_cons_iff]
    rw [ih]
    by_cases h1 : a < b
    · simp [h1]
    · by_cases h2 : b < a
      · have h3 : a ≠ b := fun h => by rw [h] at h2; exact absurd h2 (UInt8.lt_irrefl b)
        simp [h1, h2, h3]
      · have h3 : a = b := UInt8.toNat_inj.1 (by rw [UInt8.lt_iff_toNat_lt] at h1 h2; omega)
        subst h3
        simp
theorem compare_any (a b : List UInt8) (w : World) : Calls Tryz.prog 55 #[.string (bs a), .string (bs b)] w fun e w' => e = .returned (.int .i64 (cmpB a b)) ∧ w = w' :=
  (Tryz.strings_Compare (bs a) (bs b) w).mono fun _ _ ⟨h1, h2⟩ => ⟨by rw [h1, bs_data, bs_data, cmpB_eq], h2.symm⟩

/-- a pair's cells -/
def encP (p : Pr) : List Value := [.string (bs p.1), .string (bs p.2)]
theorem encP_two (p : Pr) : (encP p).length = 2 := rfl
theorem encP_one (p : Pr) : ∀ v ∈ encP p, v.oneCell' = true := fun v hv => by
  simp [encP] at hv
  rcases hv with rfl | rfl <;> rfl
theorem pcs_enc (l : List Pr) : pcs l = l.flatMap encP := rfl

set_option maxHeartbeats 1000000 in
theorem byName_any (p q : Pr) (w : World) : Calls Tryz.prog 75 #[.agg #[.string (bs p.1), .string (bs p.2)], .agg #[.string (bs q.1), .string (bs q.2)]] w
    fun e w' => e = .returned (.int .i64 (cmpB p.1 q.1)) ∧ ∃ k os, w' = Sort.grow (w.drewN k) os := by
  have hcon := compare_any p.1 q.1
  have HC := Lib.hid hcon
  clear hcon
  go_enter Tryz.func75, Tryz.ntmps75
  go_wp2_with fail
  refine (HC.out _).mono ?_
  rintro e w' ⟨rfl, rfl⟩
  go_wp2_with fail
  go_ret
  exact ⟨rfl, 0, _, by rw [Sort.alloc_eq_grow, Sort.alloc_eq_grow, Sort.grow_grow]; rfl⟩

/-- by names -/
def byN (p q : Pr) : Int := cmpB p.1 q.1
theorem byN_lt (p q : Pr) : Go.Proofs.ltOf byN p q = decide (p.1 < q.1) := by
  unfold Go.Proofs.ltOf byN
  rw [decide_eq_decide]
  exact cmpB_lt
theorem byN_swo : Sort.SWO (Go.Proofs.ltOf byN) where
  irrefl x := by rw [byN_lt]; exact decide_eq_false (b_irrefl _)
  trans x y z h1 h2 := by
    rw [byN_lt, decide_eq_true_eq] at *
    exact b_trans h1 h2
  ntrans x y z h1 h2 := by
    rw [byN_lt, decide_eq_false_iff_not] at *
    intro h3
    by_cases h4 : y.1 < x.1
    · exact h2 (b_trans h4 h3)
    · exact h2 (by rw [← b_tri h1 h4]; exact h3)

theorem pair_ty : ElemTy Tryz.prog 43 84 (.agg #[.string ByteArray.empty, .string ByteArray.empty]) 2 32 :=
  ⟨Tryz.underlying43, info_parts (show (Tryz.prog.info? 84).map (fun i => (i.zero, i.size, i.bytes)) = some (some (.agg #[.string ByteArray.empty, .string ByteArray.empty]), 2, 32) by kernel_rfl), rfl⟩

/-- pairs in a buffer of the call's own -/
def RetP (w : World) (l : List Pr) (e : Ending) (w' : World) : Prop := ∃ v, e = .returned v ∧ NBuf w w' 84 2 v l.length (pcs l)

set_option maxHeartbeats 1000000 in
set_option maxRecDepth 10000 in
theorem clone_any (v : Value) (l : List Pr) (w : World) (h : PsAt w v l) (hl : l.length ≤ 1000000) :
    Calls Tryz.prog 73 #[v] w (RetP w l) := by
  obtain ⟨A, c, rfl, hlc, hcm⟩ := h.shape
  have hnil := fun w => run_eql_slice_nil (P := Tryz.prog) w 43 84 A l.length c Tryz.underlying43
  rcases A with _ | A
  · have h0 : l.length = 0 := by
      rcases Nat.eq_zero_or_pos l.length with h0 | h0
      · exact h0
      · obtain ⟨p, hp⟩ : ∃ p, l[0]? = some p := ⟨_, List.getElem?_eq_getElem h0⟩
        obtain ⟨b, o, hA, _⟩ := h.at_ hp
        cases hA
    obtain rfl : l = [] := List.eq_nil_of_length_eq_zero h0
    clear h0 hnil
    have hnil := fun w => run_eql_slice_nil (P := Tryz.prog) w 43 84 none 0 c Tryz.underlying43
    go_enter Tryz.func73, Tryz.ntmps73
    go_wp2_with fail
    go_ret
    exact ⟨_, rfl, NBuf.nil (Below.refl _ _) _ _⟩
  · have hs := fun o => SlAt.src (P := Tryz.prog) (h.below (below_alloc1 w o)) (by omega) (t := 43) Tryz.underlying43 (pcs_one l)
    have HS := Lib.hid hs
    have hnb := NBuf.lit0 (Below.refl w.heap.size w) 84 2
    clear hs
    go_enter Tryz.func73, Tryz.ntmps73
    go_wp2_with (at_builtin; refine wpList_append_el rfl (.tmp 5) (.tmp 6) 43 43 rfl pair_ty rfl hnb.buf rfl (HS.out _) (by simp only [maxLen]; omega) (by omega) ?_; intro v' w' hb ha hg; have hn2 := hnb.step hb ha hg; clear hb ha hg)
    go_ret
    rw [Nat.zero_add, List.nil_append] at hn2
    exact ⟨_, rfl, hn2⟩

set_option maxHeartbeats 1000000 in
set_option maxRecDepth 100000 in
theorem sortNone_any (A : Option Addr) (c : Nat) (w : World) :
    Calls Tryz.prog 74 #[.slice A 0 c, .func (.func 75) #[] #[]] w fun e w' => e = .returned (.tuple #[]) ∧ w = w' := by
  have hi : ∀ w, Calls Tryz.prog 95 #[.slice A 0 c, .int .i64 0, .int .i64 0, .func (.func 75) #[] #[]] w fun e w' => e = .returned (.tuple #[]) ∧ w = w' := by
    intro w
    go_enter Tryz.func95, Tryz.ntmps95
    go_wp2_with fail
    go_loop [8] (fun i => i = .int .i64 1) (fun _ => 0)
    case atStart => rfl
    case round =>
      obtain rfl := hrel
      go_wp2_with fail
      go_end0
      exact ⟨rfl, rfl⟩
  have HI := Lib.hid hi
  clear hi
  have hq : ∀ (q : Int) (w : World), Calls Tryz.prog 86 #[.slice A 0 c, .int .i64 0, .int .i64 0, .int .i64 q, .func (.func 75) #[] #[]] w fun e w' => e = .returned (.tuple #[]) ∧ w = w' := by
    intro q w
    go_enter Tryz.func86, Tryz.ntmps86
    go_wp2_with fail
    go_loop [1, 2, 3, 10, 11] (fun a b l x y => a = .int .i64 0 ∧ b = .int .i64 0 ∧ l = .int .i64 q ∧ x = .bool true ∧ y = .bool true) (fun _ _ _ _ _ => 0)
    case atStart => exact ⟨rfl, rfl, rfl, rfl, rfl⟩
    case round =>
      obtain ⟨rfl, rfl, rfl, rfl, rfl⟩ := hrel
      go_wp2_with fail
      refine (HI.out _).mono ?_
      rintro e w' ⟨rfl, rfl⟩
      go_wp2_with fail
      refine bodyPost_ret (results_none rfl _ _ _) rfl ?_
      exact ⟨rfl, rfl⟩
  have HQ := Lib.hid hq
  clear hq
  have hb := Tryz.bits_Len 0 w (by omega) (by omega)
  have hb2 : Calls Tryz.prog 87 #[.int .u64 0] w fun e w' => (∃ q : Int, e = .returned (.int .i64 q)) ∧ w = w' := hb.mono fun _ _ ⟨h1, h2⟩ => ⟨⟨_, h1⟩, h2.symm⟩
  have HB := Lib.hid hb2
  clear hb hb2
  go_enter Tryz.func74, Tryz.ntmps74
  go_wp2_with fail
  refine HB.out.mono ?_
  rintro e w' ⟨⟨q, rfl⟩, rfl⟩
  go_wp2_with fail
  refine (HQ.out q _).mono ?_
  rintro e w' ⟨rfl, rfl⟩
  go_wp2_with fail
  go_end0
  exact ⟨rfl, rfl⟩

set_option maxHeartbeats 1000000 in
set_option maxRecDepth 10000 in
/-- slices.SortFunc over a buffer of the call's own -/
theorem sortBuf_any (b o c : Nat) (l : List Pr) (w0 w : World) (h : NBuf w0 w 84 2 (.slice (some ⟨b, o, none⟩) l.length c) l.length (pcs l)) (h0 : 0 < l.length) (hl : l.length ≤ 1000000) :
    Calls Tryz.prog 74 #[.slice (some ⟨b, o, none⟩) l.length c, .func (.func 75) #[] #[]] w
      fun e w' => e = .returned (.tuple #[]) ∧ ∃ m : List Pr, m.Perm l ∧ Asc m ∧ NBuf w0 w' 84 2 (.slice (some ⟨b, o, none⟩) l.length c) l.length (pcs m) := by
  have hsz : l.toArray.size = l.length := rfl
  have hblk : b < w.heap.size := h.buf.lt h0 b rfl
  have hB : w0.heap.size ≤ b := h.new b rfl
  have eg : ∀ args w, (callFunc 75 args).run Tryz.prog w = .ok (.enter 75 args) w := enters_of Tryz.func75 (by kernel_rfl) rfl
  have hH : Sort.HoldsK encP 2 w b o l.toArray := Buf.holdsK encP_two (d := l.toArray) h.buf
  have hcmp : Go.Proofs.CmpLays Tryz.prog 75 #[] encP 2 byN b o l.toArray.size w := fun _ _ _ _ x y => byName_any x y _
  have hlim : Lib.bitLen l.toArray.size < 4611686018427387904 := Nat.lt_of_le_of_lt (Lib.bitLen_le l.toArray.size 62 (by omega) (by omega)) (by omega)
  have hp := Go.Proofs.AnyQ.pdqsortCmpFunc_all (P := Tryz.prog) (ρ := Tryz.pdqP_ren) Tryz.pdqP 2 Tryz.isAgg84 Tryz.sizeOf84 encP byN 75 #[] byN_swo b o c l.toArray w eg hcmp ⟨encP_two, encP_one, hH, hblk⟩ (l.toArray.size + 1) 0 l.toArray.size (Lib.bitLen l.toArray.size) l.toArray w (by omega) rfl (Go.Proofs.SWK.start hH) (Nat.zero_le _) (Nat.le_refl _) (by omega) hlim (Or.inl rfl)
  have hs := Sort.pdq_sorts (Go.Proofs.ltOf byN) byN_swo l.toArray 0 l.toArray.size (Lib.bitLen l.toArray.size) true true (Nat.zero_le _) (Nat.le_refl _) (Or.inl rfl)
  have hq : Calls Tryz.prog 86 #[.slice (some ⟨b, o, none⟩) l.length c, .int .i64 0, .int .i64 l.length, .int .i64 (Lib.bitLen l.length : Nat), .func (.func 75) #[] #[]] w
      fun e w' => e = .returned (.tuple #[]) ∧ ∃ m : List Pr, m.Perm l ∧ Asc m ∧ NBuf w0 w' 84 2 (.slice (some ⟨b, o, none⟩) l.length c) l.length (pcs m) := by
    refine Calls.mono hp ?_
    rintro e w' ⟨h1, n, os, rfl⟩
    obtain ⟨p1, p2⟩ := permIn_list hs.1
    have p4 := sortedIn_list (d := Sort.pdq (Go.Proofs.ltOf byN) l.toArray 0 l.toArray.size (Lib.bitLen l.toArray.size) true true) (by rw [p1]; exact hs.2)
    generalize Sort.pdq (Go.Proofs.ltOf byN) l.toArray 0 l.toArray.size (Lib.bitLen l.toArray.size) true true = d at *
    exact ⟨h1, d.toList, p2, p4.imp (fun hh => by rw [byN_lt, decide_eq_false_iff_not] at hh; exact hh), Buf.sortWorldK encP_two h.buf n d p1 h0 os, h.below.trans (sortWorldK_below encP 2 n d os hB hblk), h.new⟩
  have HQ := Lib.hid hq
  have hb := Tryz.bits_Len (l.length : Int) w (by omega) (by omega)
  have hb2 : Calls Tryz.prog 87 #[.int .u64 l.length] w fun e w' => e = .returned (.int .i64 (Lib.bitLen l.length : Nat)) ∧ w = w' := hb.mono fun _ _ ⟨h1, h2⟩ => ⟨by rw [h1, Int.toNat_natCast], h2.symm⟩
  have HB := Lib.hid hb2
  have wr : IntKind.u64.wrap (l.length : Int) = l.length := by rw [IntKind.wrap_u64]; omega
  have WR := Lib.hid wr
  clear hb hb2 hq hp hs hH hcmp hlim hsz eg h wr
  obtain ⟨Z, hZ⟩ : ∃ Z : Nat, Z = Lib.bitLen l.length := ⟨_, rfl⟩
  rw [← hZ] at HB HQ
  clear hZ
  go_enter Tryz.func74, Tryz.ntmps74
  go_wp2_with fail
  refine HB.out.mono ?_
  rintro e w' ⟨rfl, rfl⟩
  go_wp2_with fail
  refine HQ.out.mono ?_
  rintro e w' ⟨rfl, hm⟩
  have HM := Lib.hid hm
  clear hm
  go_wp2_with fail
  go_end0
  exact ⟨rfl, HM.out⟩

/-- what Make leaves -/
def RetMk (w : World) (l : List Pr) (e : Ending) (w' : World) : Prop := ∃ v m, e = .returned (.tuple #[v, .int .i64 (errL m)]) ∧ m.Perm l ∧ Asc m ∧ NBuf w w' 84 2 v m.length (pcs m)

set_option maxHeartbeats 1000000 in
set_option maxRecDepth 10000 in
theorem make_any (v : Value) (l : List Pr) (w : World) (h : PsAt w v l) (hl : l.length ≤ 1000000) (hp : ∀ p ∈ l, p.1.length ≤ 1000000000000) :
    Calls Tryz.prog 62 #[v] w (RetMk w l) := by
  have hc := clone_any v l w h hl
  have HC := Lib.hid hc
  clear hc
  obtain ⟨A, c, rfl, hlc, hcm⟩ := h.shape
  go_enter Tryz.func62, Tryz.ntmps62
  go_wp2_with fail
  refine HC.out.mono ?_
  rintro e w1 ⟨v1, rfl, hn⟩
  obtain ⟨A1, c1, rfl, hc1⟩ := hn.buf.shape
  rcases Nat.eq_zero_or_pos l.length with h0 | h0
  · obtain rfl : l = [] := List.eq_nil_of_length_eq_zero h0
    have hk := lcheck_any (.slice A1 0 c1) [] w1 hn.slice hp
    have HK := Lib.hid hk
    have HN := Lib.hid hn
    clear hk hn h0 hl hp
    go_wp2_with fail
    refine (sortNone_any A1 c1 w1).mono ?_
    rintro e w' ⟨rfl, rfl⟩
    go_wp2_with fail
    refine HK.out.mono ?_
    rintro e w2 ⟨rfl, hb⟩
    have HN2 := Lib.hid (HN.out.then_below hb)
    clear hb
    go_wp2_with fail
    go_ret2
    exact ⟨_, [], rfl, .refl _, by simp [Asc], HN2.out⟩
  · obtain ⟨b, o, hA, _⟩ := hn.buf.some_at h0
    subst hA
    have hs := sortBuf_any b o c1 l w w1 hn h0 hl
    have HS := Lib.hid hs
    clear hs hn
    go_wp2_with fail
    refine HS.out.mono ?_
    rintro e w2 ⟨rfl, m, hm1, hm2, hn⟩
    have hml : m.length = l.length := hm1.length_eq
    have hn2 : NBuf w w2 84 2 (.slice (some ⟨b, o, none⟩) l.length c1) m.length (pcs m) := by rw [hml]; exact hn
    have hk := lcheck_any _ m w2 hn2.slice (fun p hp' => hp p (hm1.mem_iff.1 hp'))
    have HK := Lib.hid hk
    have HN := Lib.hid hn2
    have HM := Lib.hid hm1
    clear hk hn hn2 hml hm1
    go_wp2_with fail
    refine HK.out.mono ?_
    rintro e w3 ⟨rfl, hb⟩
    have HN2 := Lib.hid (HN.out.then_below hb)
    clear hb
    go_wp2_with fail
    go_ret2
    exact ⟨_, m, rfl, HM.out, hm2, HN2.out⟩

end Go.Proofs.YtjklcojnbcemoaaGreatDoor

/-
  Layer 6: the walks of label's Compare and String.
-/
namespace Go.Proofs.YtjklcojnbcemoaaGreatDoor
open Go.RowKit Go.Bar Go.Bar.Leb Go.Bar.Lab

set_option maxHeartbeats 1000000 in
theorem byBoth_any (p q : Pr) (w : World) : Calls Tryz.prog 54 #[.agg #[.string (bs p.1), .string (bs p.2)], .agg #[.string (bs q.1), .string (bs q.2)]] w
    (RetBelow w (.int .i64 (cmpP p q))) := by
  have hcon := compare_any p.1 q.1
  have hcon2 := compare_any p.2 q.2
  have hbl : Below w.heap.size w ((w.alloc (.cells #[.string (bs p.1), .string (bs p.2)] 84)).alloc (.cells #[.string (bs q.1), .string (bs q.2)] 84)) := below_trans (below_alloc1 _ _) (below_alloc1 _ _)
  unfold cmpP
  by_cases h0 : cmpB p.1 q.1 = 0
  · rw [if_neg (by omega)]
    rw [h0] at hcon
    have HC := Lib.hid hcon
    have HC2 := Lib.hid hcon2
    clear hcon hcon2 h0
    go_enter Tryz.func54, Tryz.ntmps54
    go_wp2_with fail
    refine (HC.out _).mono ?_
    rintro e w' ⟨rfl, rfl⟩
    go_wp2_with fail
    refine (HC2.out _).mono ?_
    rintro e w' ⟨rfl, rfl⟩
    go_wp2_with fail
    go_ret
    exact ⟨rfl, hbl⟩
  · rw [if_pos h0]
    have hb : (cmpB p.1 q.1 != 0) = true := by rw [bne_iff_ne]; exact h0
    obtain ⟨z, hz⟩ : ∃ z, cmpB p.1 q.1 = z := ⟨_, rfl⟩
    rw [hz] at hcon hb ⊢
    have HC := Lib.hid hcon
    clear hcon hcon2 h0 hz
    go_enter Tryz.func54, Tryz.ntmps54
    go_wp2_with fail
    refine (HC.out _).mono ?_
    rintro e w' ⟨rfl, rfl⟩
    go_wp2_with fail
    go_ret
    exact ⟨rfl, hbl⟩

theorem cmpL_step {a b : List Pr} {k : Nat} {p q : Pr} (ha : a[k]? = some p) (hb : b[k]? = some q) : cmpL (a.drop k) (b.drop k) = if cmpP p q ≠ 0 then cmpP p q else cmpL (a.drop (k + 1)) (b.drop (k + 1)) := by
  obtain ⟨h1, rfl⟩ := List.getElem?_eq_some_iff.1 ha
  obtain ⟨h2, rfl⟩ := List.getElem?_eq_some_iff.1 hb
  rw [List.drop_eq_getElem_cons h1, List.drop_eq_getElem_cons h2]
  rfl
theorem cmpL_right {a b : List Pr} {k : Nat} (ha : k < a.length) (hb : b.length ≤ k) : cmpL (a.drop k) (b.drop k) = 1 := by
  rw [List.drop_eq_getElem_cons ha, List.drop_of_length_le hb]
  rfl
theorem cmpL_end {a b : List Pr} : cmpL (a.drop a.length) (b.drop a.length) = if a.length < b.length then -1 else 0 := by
  rw [List.drop_length]
  split
  · rename_i h
    rw [List.drop_eq_getElem_cons h]
    rfl
  · rename_i h
    rw [List.drop_of_length_le (by omega)]
    rfl

set_option maxHeartbeats 4000000 in
set_option maxRecDepth 10000 in
theorem compareFunc_any (v v' : Value) (a b : List Pr) (w : World) (h : PsAt w v a) (h' : PsAt w v' b) :
    Calls Tryz.prog 53 #[v, v', .func (.func 54) #[] #[]] w (RetBelow w (.int .i64 (cmpL a b))) := by
  obtain ⟨A, c, rfl, hlc, hcm⟩ := h.shape
  obtain ⟨A', c', rfl, hlc', hcm'⟩ := h'.shape
  unfold maxLen at hcm hcm'
  obtain ⟨Z, hZ⟩ : ∃ Z, Z = cmpL a b := ⟨_, rfl⟩
  rw [← hZ]
  have HZ := Lib.hid hZ
  clear hZ
  go_enter Tryz.func53, Tryz.ntmps53
  go_wp2_with fail
  go_loopw [13] (fun i wr => ∃ k : Nat, k ≤ a.length ∧ i = .int .i64 k ∧ Below w.heap.size w wr ∧ Hid (Z = cmpL (a.drop k) (b.drop k))) (fun i _ => a.length - (intOf i).toNat)
  case atStart => exact ⟨0, Nat.zero_le _, rfl, Below.refl _ _, HZ⟩
  case round =>
    obtain ⟨k, hk, rfl, hbl, hz⟩ := hrel
    by_cases hgo : k < a.length
    · obtain ⟨p, hpk⟩ : ∃ p, a[k]? = some p := ⟨_, List.getElem?_eq_getElem hgo⟩
      obtain ⟨ba, oa, rfl, hba, g1, g2⟩ := (h.below hbl).at_ hpk
      by_cases hgb : k < b.length
      · obtain ⟨q, hqk⟩ : ∃ q, b[k]? = some q := ⟨_, List.getElem?_eq_getElem hgb⟩
        obtain ⟨bb, ob, rfl, hbb, f1, f2⟩ := (h'.below hbl).at_ hqk
        have hd : decide ((b.length : Int) ≤ (k : Int)) = false := decide_eq_false (by omega)
        have HS := Lib.hid (cmpL_step hpk hqk)
        have hc := byBoth_any p q
        clear hpk hqk
        have hbl2 : Below w.heap.size w ((wr.alloc (.cells #[.string (bs p.1), .string (bs p.2)] 84)).alloc (.cells #[.string (bs q.1), .string (bs q.2)] 84)) := below_trans (below_trans hbl (below_alloc1 _ _)) (below_alloc1 _ _)
        by_cases h0 : cmpP p q = 0
        · have hz2 : Z = cmpL (a.drop (k + 1)) (b.drop (k + 1)) := by rw [hz.out, HS.out, if_neg (by omega)]
          rw [h0] at hc
          have HC := Lib.hid hc
          have HZ2 := Lib.hid hz2
          clear hc hz2 h0 hz
          go_wp2_with fail
          refine (HC.out _).mono ?_
          rintro e w2 ⟨rfl, h2⟩
          have hbl3 := below_trans hbl2 h2
          clear h2
          go_wp2_with fail
          go_roundw
          case rel => exact ⟨k + 1, by omega, by go_num, hbl3, HZ2⟩
          case measure => simp [intOf]; omega
        · have hz2 : Z = cmpP p q := by rw [hz.out, HS.out, if_pos h0]
          have hb : (cmpP p q != 0) = true := by rw [bne_iff_ne]; exact h0
          rw [← hz2] at hc hb
          have HC := Lib.hid hc
          clear hc hz2 h0 hz
          go_wp2_with fail
          refine (HC.out _).mono ?_
          rintro e w2 ⟨rfl, h2⟩
          have hbl3 := below_trans hbl2 h2
          clear h2
          go_wp2_with fail
          go_ret
          exact ⟨rfl, hbl3⟩
      · have HZ2 := Lib.hid (show Z = 1 by rw [hz.out, cmpL_right hgo (by omega)])
        have hd : decide ((b.length : Int) ≤ (k : Int)) = true := decide_eq_true (by omega)
        clear hpk hz
        go_wp2_with fail
        go_ret
        exact ⟨by rw [HZ2.out]; rfl, below_trans hbl (below_alloc1 _ _)⟩
    · obtain rfl : k = a.length := by omega
      have hz2 := hz.out
      rw [cmpL_end] at hz2
      by_cases hlt : a.length < b.length
      · rw [if_pos hlt] at hz2
        have HZ2 := Lib.hid hz2
        clear hz2 hz
        go_wp2_with fail
        go_ret
        exact ⟨by rw [HZ2.out]; rfl, hbl⟩
      · rw [if_neg hlt] at hz2
        have HZ2 := Lib.hid hz2
        have hd : decide ((a.length : Int) < (b.length : Int)) = false := decide_eq_false (by omega)
        clear hz2 hz
        go_wp2_with fail
        go_ret
        exact ⟨by rw [HZ2.out]; rfl, hbl⟩

set_option maxHeartbeats 1000000 in
theorem lcompare_any (v v' : Value) (a b : List Pr) (w : World) (h : PsAt w v a) (h' : PsAt w v' b) :
    Calls Tryz.prog 31 #[v, v'] w (RetBelow w (.int .i64 (cmpL a b))) := by
  have hc := compareFunc_any v v' a b w h h'
  obtain ⟨Z, hZ⟩ : ∃ Z, cmpL a b = Z := ⟨_, rfl⟩
  rw [hZ] at hc ⊢
  have HC := Lib.hid hc
  clear hc hZ h h'
  go_enter Tryz.func31, Tryz.ntmps31
  go_wp2_with fail
  refine HC.out.mono ?_
  rintro e w2 ⟨rfl, h2⟩
  go_wp2_with fail
  go_ret
  exact ⟨rfl, h2⟩

end Go.Proofs.YtjklcojnbcemoaaGreatDoor
