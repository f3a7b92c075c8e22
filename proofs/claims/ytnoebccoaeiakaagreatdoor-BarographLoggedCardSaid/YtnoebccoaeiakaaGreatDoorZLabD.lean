/-
  Layer 6: the walk of label's Make: pairs, sorted by their names.
-/
import Derived.Test.YtnoebccoaeiakaaGreatDoorZRws
import Derived.Test.YtnoebccoaeiakaaGreatDoorZLib13
import Derived.Test.YtnoebccoaeiakaaGreatDoorZShelf
import Derived.Lib.LazyBuf
import Derived.Test.YtnoebccoaeiakaaGreatDoorZLib9
import Derived.Test.YtnoebccoaeiakaaGreatDoorZHdA
import Derived.Lib.Builder
import Derived.Lib.AppendStr
import Derived.Laws.Externs
import Derived.Test.YtnoebccoaeiakaaGreatDoorZLib14
import Derived.Test.YtnoebccoaeiakaaGreatDoorZFrmN
import Derived.Test.YtnoebccoaeiakaaGreatDoorZWalV

namespace Go.Proofs.YtnoebccoaeiakaaGreatDoor
open Go.RowKit Go.Bar Go.Bar.Leb Go.Bar.Lab

theorem cmpB_eq : ∀ (a b : List UInt8), Lib.compareBytes a b = cmpB a b
  | [], [] => rfl
  | [], _ :: _ => by simp [Lib.compareBytes, cmpB]
  | _ :: _, [] => by simp [Lib.compareBytes, cmpB]
  | a :: x, b :: y => by
    have ih := cmpB_eq x y
    unfold cmpB at ih
    unfold Lib.compareBytes cmpB
    simp only [List.cons_lt_cons_iff]
    rw [ih]
    by_cases h1 : a < b
    · simp [h1]
    · by_cases h2 : b < a
      · have h3 : a ≠ b := fun h => by rw [h] at h2; exact absurd h2 (UInt8.lt_irrefl b)
        simp [h1, h2, h3]
      · have h3 : a = b := UInt8.toNat_inj.1 (by rw [UInt8.lt_iff_toNat_lt] at h1 h2; omega)
        subst h3
        simp
theorem compare_any (a b : List UInt8) (w : World) : Calls Tryz.prog 107 #[.string (bs a), .string (bs b)] w fun e w' => e = .returned (.int .i64 (cmpB a b)) ∧ w = w' :=
  (Tryz.strings_Compare (bs a) (bs b) w).mono fun _ _ ⟨h1, h2⟩ => ⟨by rw [h1, bs_data, bs_data, cmpB_eq], h2.symm⟩

def encP (p : Pr) : List Value := [.string (bs p.1), .string (bs p.2)]
theorem encP_two (p : Pr) : (encP p).length = 2 := rfl
theorem encP_one (p : Pr) : ∀ v ∈ encP p, v.oneCell' = true := fun v hv => by
  simp [encP] at hv
  rcases hv with rfl | rfl <;> rfl

set_option maxHeartbeats 1000000 in
theorem byName_any (p q : Pr) (w : World) : Calls Tryz.prog 143 #[.agg #[.string (bs p.1), .string (bs p.2)], .agg #[.string (bs q.1), .string (bs q.2)]] w
    fun e w' => e = .returned (.int .i64 (cmpB p.1 q.1)) ∧ ∃ k os, w' = Sort.grow (w.drewN k) os := by
  have hcon := compare_any p.1 q.1
  have HC := Lib.hid hcon
  clear hcon
  go_enter Tryz.func143, Tryz.ntmps143
  go_wp2_with fail
  refine (HC.out _).mono ?_
  rintro e w' ⟨rfl, rfl⟩
  go_wp2_with fail
  go_ret
  exact ⟨rfl, 0, _, by rw [Sort.alloc_eq_grow, Sort.alloc_eq_grow, Sort.grow_grow]; rfl⟩

def byN (p q : Pr) : Int := cmpB p.1 q.1
theorem byN_lt (p q : Pr) : Go.Proofs.ltOf byN p q = decide (p.1 < q.1) := by
  unfold Go.Proofs.ltOf byN
  rw [decide_eq_decide]
  exact cmpB_lt
theorem byN_swo : Sort.SWO (Go.Proofs.ltOf byN) where
  irrefl x := by rw [byN_lt]; exact decide_eq_false (b_irrefl _)
  trans x y z h1 h2 := by
    rw [byN_lt, decide_eq_true_eq] at *
    exact b_trans h1 h2
  ntrans x y z h1 h2 := by
    rw [byN_lt, decide_eq_false_iff_not] at *
    intro h3
    by_cases h4 : y.1 < x.1
    · exact h2 (b_trans h4 h3)
    · exact h2 (by rw [← b_tri h1 h4]; exact h3)

theorem pair_ty : ElemTy Tryz.prog 92 155 (.agg #[.string ByteArray.empty, .string ByteArray.empty]) 2 32 :=
  ⟨Tryz.underlying92, info_parts (show (Tryz.prog.info? 155).map (fun i => (i.zero, i.size, i.bytes)) = some (some (.agg #[.string ByteArray.empty, .string ByteArray.empty]), 2, 32) by kernel_rfl), rfl⟩

def RetP (w : World) (l : List Pr) (e : Ending) (w' : World) : Prop := ∃ v, e = .returned v ∧ NBuf w w' 155 2 v l.length (pcs l)

set_option maxHeartbeats 1000000 in
set_option maxRecDepth 10000 in
theorem clone_any (v : Value) (l : List Pr) (w : World) (h : PsAt w v l) (hl : l.length ≤ 1000000) :
    Calls Tryz.prog 141 #[v] w (RetP w l) := by
  obtain ⟨A, c, rfl, hlc, hcm⟩ := h.shape
  have hnil := fun w => run_eql_slice_nil (P := Tryz.prog) w 92 155 A l.length c Tryz.underlying92
  rcases A with _ | A
  · have h0 : l.length = 0 := by
      rcases Nat.eq_zero_or_pos l.length with h0 | h0
      · exact h0
      · obtain ⟨p, hp⟩ : ∃ p, l[0]? = some p := ⟨_, List.getElem?_eq_getElem h0⟩
        obtain ⟨b, o, hA, _⟩ := h.at_ hp
        cases hA
    obtain rfl : l = [] := List.eq_nil_of_length_eq_zero h0
    clear h0 hnil
    have hnil := fun w => run_eql_slice_nil (P := Tryz.prog) w 92 155 none 0 c Tryz.underlying92
    go_enter Tryz.func141, Tryz.ntmps141
    go_wp2_with fail
    go_ret
    exact ⟨_, rfl, NBuf.nil (Below.refl _ _) _ _⟩
  · have hs := fun o => SlAt.src (P := Tryz.prog) (h.below (below_alloc1 w o)) (by omega) (t := 92) Tryz.underlying92 (pcs_one l)
    have HS := Lib.hid hs
    have hnb := NBuf.lit0 (Below.refl w.heap.size w) 155 2
    clear hs
    go_enter Tryz.func141, Tryz.ntmps141
    go_wp2_with (at_builtin; refine wpList_append_el rfl (.tmp 5) (.tmp 6) 92 92 rfl pair_ty rfl hnb.buf rfl (HS.out _) (by simp only [maxLen]; omega) (by omega) ?_; intro v' w' hb ha hg; have hn2 := hnb.step hb ha hg; clear hb ha hg)
    go_ret
    rw [Nat.zero_add, List.nil_append] at hn2
    exact ⟨_, rfl, hn2⟩

set_option maxHeartbeats 1000000 in
set_option maxRecDepth 100000 in
theorem sortNone_any (A : Option Addr) (c : Nat) (w : World) :
    Calls Tryz.prog 142 #[.slice A 0 c, .func (.func 143) #[] #[]] w fun e w' => e = .returned (.tuple #[]) ∧ w = w' := by
  have hi : ∀ w, Calls Tryz.prog 215 #[.slice A 0 c, .int .i64 0, .int .i64 0, .func (.func 143) #[] #[]] w fun e w' => e = .returned (.tuple #[]) ∧ w = w' := by
    intro w
    go_enter Tryz.func215, Tryz.ntmps215
    go_wp2_with fail
    go_loop [8] (fun i => i = .int .i64 1) (fun _ => 0)
    case atStart => rfl
    case round =>
      obtain rfl := hrel
      go_wp2_with fail
      go_end0
      exact ⟨rfl, rfl⟩
  have HI := Lib.hid hi
  clear hi
  have hq : ∀ (q : Int) (w : World), Calls Tryz.prog 183 #[.slice A 0 c, .int .i64 0, .int .i64 0, .int .i64 q, .func (.func 143) #[] #[]] w fun e w' => e = .returned (.tuple #[]) ∧ w = w' := by
    intro q w
    go_enter Tryz.func183, Tryz.ntmps183
    go_wp2_with fail
    go_loop [1, 2, 3, 10, 11] (fun a b l x y => a = .int .i64 0 ∧ b = .int .i64 0 ∧ l = .int .i64 q ∧ x = .bool true ∧ y = .bool true) (fun _ _ _ _ _ => 0)
    case atStart => exact ⟨rfl, rfl, rfl, rfl, rfl⟩
    case round =>
      obtain ⟨rfl, rfl, rfl, rfl, rfl⟩ := hrel
      go_wp2_with fail
      refine (HI.out _).mono ?_
      rintro e w' ⟨rfl, rfl⟩
      go_wp2_with fail
      refine bodyPost_ret (results_none rfl _ _ _) rfl ?_
      exact ⟨rfl, rfl⟩
  have HQ := Lib.hid hq
  clear hq
  have hb := Tryz.bits_Len 0 w (by omega) (by omega)
  have hb2 : Calls Tryz.prog 97 #[.int .u64 0] w fun e w' => (∃ q : Int, e = .returned (.int .i64 q)) ∧ w = w' := hb.mono fun _ _ ⟨h1, h2⟩ => ⟨⟨_, h1⟩, h2.symm⟩
  have HB := Lib.hid hb2
  clear hb hb2
  go_enter Tryz.func142, Tryz.ntmps142
  go_wp2_with fail
  refine HB.out.mono ?_
  rintro e w' ⟨⟨q, rfl⟩, rfl⟩
  go_wp2_with fail
  refine (HQ.out q _).mono ?_
  rintro e w' ⟨rfl, rfl⟩
  go_wp2_with fail
  go_end0
  exact ⟨rfl, rfl⟩

set_option maxHeartbeats 1000000 in
set_option maxRecDepth 10000 in
theorem sortBuf_any (b o c : Nat) (l : List Pr) (w0 w : World) (h : NBuf w0 w 155 2 (.slice (some ⟨b, o, none⟩) l.length c) l.length (pcs l)) (h0 : 0 < l.length) (hl : l.length ≤ 1000000) :
    Calls Tryz.prog 142 #[.slice (some ⟨b, o, none⟩) l.length c, .func (.func 143) #[] #[]] w
      fun e w' => e = .returned (.tuple #[]) ∧ ∃ m : List Pr, m.Perm l ∧ Asc m ∧ NBuf w0 w' 155 2 (.slice (some ⟨b, o, none⟩) l.length c) l.length (pcs m) := by
  have hsz : l.toArray.size = l.length := rfl
  have hblk : b < w.heap.size := h.buf.lt h0 b rfl
  have hB : w0.heap.size ≤ b := h.new b rfl
  have eg : ∀ args w, (callFunc 143 args).run Tryz.prog w = .ok (.enter 143 args) w := enters_of Tryz.func143 (by kernel_rfl) rfl
  have hH : Sort.HoldsK encP 2 w b o l.toArray := Buf.holdsK encP_two (d := l.toArray) h.buf
  have hcmp : Go.Proofs.CmpLays Tryz.prog 143 #[] encP 2 byN b o l.toArray.size w := fun _ _ _ _ x y => byName_any x y _
  have hlim : Lib.bitLen l.toArray.size < 4611686018427387904 := Nat.lt_of_le_of_lt (Lib.bitLen_le l.toArray.size 62 (by omega) (by omega)) (by omega)
  have hp := Go.Proofs.AnyQ.pdqsortCmpFunc_all (P := Tryz.prog) (ρ := Tryz.pdqP_ren) Tryz.pdqP 2 Tryz.isAgg155 Tryz.sizeOf155 encP byN 143 #[] byN_swo b o c l.toArray w eg hcmp ⟨encP_two, encP_one, hH, hblk⟩ (l.toArray.size + 1) 0 l.toArray.size (Lib.bitLen l.toArray.size) l.toArray w (by omega) rfl (Go.Proofs.SWK.start hH) (Nat.zero_le _) (Nat.le_refl _) (by omega) hlim (Or.inl rfl)
  have hs := Sort.pdq_sorts (Go.Proofs.ltOf byN) byN_swo l.toArray 0 l.toArray.size (Lib.bitLen l.toArray.size) true true (Nat.zero_le _) (Nat.le_refl _) (Or.inl rfl)
  have hq : Calls Tryz.prog 183 #[.slice (some ⟨b, o, none⟩) l.length c, .int .i64 0, .int .i64 l.length, .int .i64 (Lib.bitLen l.length : Nat), .func (.func 143) #[] #[]] w
      fun e w' => e = .returned (.tuple #[]) ∧ ∃ m : List Pr, m.Perm l ∧ Asc m ∧ NBuf w0 w' 155 2 (.slice (some ⟨b, o, none⟩) l.length c) l.length (pcs m) := by
    refine Calls.mono hp ?_
    rintro e w' ⟨h1, n, os, rfl⟩
    obtain ⟨p1, p2⟩ := permIn_list hs.1
    have p4 := sortedIn_list (d := Sort.pdq (Go.Proofs.ltOf byN) l.toArray 0 l.toArray.size (Lib.bitLen l.toArray.size) true true) (by rw [p1]; exact hs.2)
    generalize Sort.pdq (Go.Proofs.ltOf byN) l.toArray 0 l.toArray.size (Lib.bitLen l.toArray.size) true true = d at *
    exact ⟨h1, d.toList, p2, p4.imp (fun hh => by rw [byN_lt, decide_eq_false_iff_not] at hh; exact hh), Buf.sortWorldK encP_two h.buf n d p1 h0 os, h.below.trans (sortWorldK_below encP 2 n d os hB hblk), h.new⟩
  have HQ := Lib.hid hq
  have hb := Tryz.bits_Len (l.length : Int) w (by omega) (by omega)
  have hb2 : Calls Tryz.prog 97 #[.int .u64 l.length] w fun e w' => e = .returned (.int .i64 (Lib.bitLen l.length : Nat)) ∧ w = w' := hb.mono fun _ _ ⟨h1, h2⟩ => ⟨by rw [h1, Int.toNat_natCast], h2.symm⟩
  have HB := Lib.hid hb2
  have wr : IntKind.u64.wrap (l.length : Int) = l.length := by rw [IntKind.wrap_u64]; omega
  have WR := Lib.hid wr
  clear hb hb2 hq hp hs hH hcmp hlim hsz eg h wr
  obtain ⟨Z, hZ⟩ : ∃ Z : Nat, Z = Lib.bitLen l.length := ⟨_, rfl⟩
  rw [← hZ] at HB HQ
  clear hZ
  go_enter Tryz.func142, Tryz.ntmps142
  go_wp2_with fail
  refine HB.out.mono ?_
  rintro e w' ⟨rfl, rfl⟩
  go_wp2_with fail
  refine HQ.out.mono ?_
  rintro e w' ⟨rfl, hm⟩
  have HM := Lib.hid hm
  clear hm
  go_wp2_with fail
  go_end0
  exact ⟨rfl, HM.out⟩

def RetMk (w : World) (l : List Pr) (e : Ending) (w' : World) : Prop := ∃ v m, e = .returned (.tuple #[v, .int .i64 (errL m)]) ∧ m.Perm l ∧ Asc m ∧ NBuf w w' 155 2 v m.length (pcs m)

set_option maxHeartbeats 1000000 in
set_option maxRecDepth 10000 in
theorem make_any (v : Value) (l : List Pr) (w : World) (h : PsAt w v l) (hl : l.length ≤ 1000000) (hp : ∀ p ∈ l, p.1.length ≤ 1000000000000) :
    Calls Tryz.prog 102 #[v] w (RetMk w l) := by
  have hc := clone_any v l w h hl
  have HC := Lib.hid hc
  clear hc
  obtain ⟨A, c, rfl, hlc, hcm⟩ := h.shape
  go_enter Tryz.func102, Tryz.ntmps102
  go_wp2_with fail
  refine HC.out.mono ?_
  rintro e w1 ⟨v1, rfl, hn⟩
  obtain ⟨A1, c1, rfl, hc1⟩ := hn.buf.shape
  rcases Nat.eq_zero_or_pos l.length with h0 | h0
  · obtain rfl : l = [] := List.eq_nil_of_length_eq_zero h0
    have hk := lcheck_any (.slice A1 0 c1) [] w1 hn.slice hp
    have HK := Lib.hid hk
    have HN := Lib.hid hn
    clear hk hn h0 hl hp
    go_wp2_with fail
    refine (sortNone_any A1 c1 w1).mono ?_
    rintro e w' ⟨rfl, rfl⟩
    go_wp2_with fail
    refine HK.out.mono ?_
    rintro e w2 ⟨rfl, hb⟩
    have HN2 := Lib.hid (HN.out.then_below hb)
    clear hb
    go_wp2_with fail
    go_ret2
    exact ⟨_, [], rfl, .refl _, by simp [Asc], HN2.out⟩
  · obtain ⟨b, o, hA, _⟩ := hn.buf.some_at h0
    subst hA
    have hs := sortBuf_any b o c1 l w w1 hn h0 hl
    have HS := Lib.hid hs
    clear hs hn
    go_wp2_with fail
    refine HS.out.mono ?_
    rintro e w2 ⟨rfl, m, hm1, hm2, hn⟩
    have hml : m.length = l.length := hm1.length_eq
    have hn2 : NBuf w w2 155 2 (.slice (some ⟨b, o, none⟩) l.length c1) m.length (pcs m) := by rw [hml]; exact hn
    have hk := lcheck_any _ m w2 hn2.slice (fun p hp' => hp p (hm1.mem_iff.1 hp'))
    have HK := Lib.hid hk
    have HN := Lib.hid hn2
    have HM := Lib.hid hm1
    clear hk hn hn2 hml hm1
    go_wp2_with fail
    refine HK.out.mono ?_
    rintro e w3 ⟨rfl, hb⟩
    have HN2 := Lib.hid (HN.out.then_below hb)
    clear hb
    go_wp2_with fail
    go_ret2
    exact ⟨_, m, rfl, HM.out, hm2, HN2.out⟩

end Go.Proofs.YtnoebccoaeiakaaGreatDoor

namespace Go.Proofs.YtnoebccoaeiakaaGreatDoor
open Go.RowKit Go.Bar

def SbAt (w wr : World) (b : Nat) (l : List UInt8) : Prop := Lib.IsBuilder 189 5 w.heap.size b (bcs l) wr ∧ Below w.heap.size w wr
theorem SbAt.start (w : World) : SbAt w (w.alloc (.cells #[.pointer none, .slice none 0 0] 189)) w.heap.size [] := ⟨Lib.fresh_isBuilder _ _ w, (Below.refl _ _).alloc (Nat.le_refl _) _⟩
theorem SbAt.below {w wr w' : World} {b : Nat} {l : List UInt8} (h : SbAt w wr b l) (hb : Below wr.heap.size wr w') : SbAt w w' b l := by
  have key : ∀ p, Lib.BuilderAt 189 5 w.heap.size b p (bcs l) wr → Lib.BuilderAt 189 5 w.heap.size b p (bcs l) w' := by
    intro p hp
    have hlt := hp.lt
    obtain ⟨h1, v, h2, h3, h4⟩ := hp
    refine ⟨h1, v, (hb.block b hlt).trans h2, ?_, h4⟩
    refine ⟨h3.1, ?_⟩
    rcases h3.2 with h5 | ⟨g, cap, cur, h5, h6, h7, h8⟩
    · exact .inl h5
    · exact .inr ⟨g, cap, cur, h5, h6, (hb.block g (Array.getElem?_eq_some_iff.1 h7).1).trans h7, h8⟩
  exact ⟨h.1.imp (key _) (key _), h.2.trans (hb.mono h.2.size)⟩

theorem SbAt.alloc {w wr : World} {b : Nat} {l : List UInt8} (h : SbAt w wr b l) (o : Obj) : SbAt w (wr.alloc o) b l := h.below ((Below.refl _ _).alloc (Nat.le_refl _) o)

def SbFr (b : Nat) (w w' : World) : Prop := ∀ k, k < w.heap.size → k ≠ b → (∀ cur fr, w.heap[k]? ≠ some (.cells cur 5 fr)) → w'.heap[k]? = w.heap[k]?
theorem SbFr.blk {b : Nat} {w w' : World} (h : SbFr b w w') {M : Nat} {T : TypeId} {cur : Array Value} (hb : Blk w M T cur) (hne : M ≠ b) (hT : T ≠ 5) : Blk w' M T cur :=
  (h M hb.lt hne (fun c fr hc => by unfold Blk at hb; rw [hb] at hc; injection hc with hc; injection hc with _ hc _; exact hT hc)).trans hb

end Go.Proofs.YtnoebccoaeiakaaGreatDoor

namespace Go.Proofs.YtnoebccoaeiakaaGreatDoor
open Go.RowKit Go.Bar Go.Bar.Leb Go.Bar.Lab

theorem snoc_val (ps : List Pr) (p : Pr) : pcs (ps ++ [p]) = pcs ps ++ [.string (bs p.1), .string (bs p.2)] := pcs_snoc ps p

def TkS (s0 : List Pr × List UInt8 × Nat) (n : Nat) (s : List UInt8) (e : Nat) (ps : List Pr) : Prop :=
  if e = 0 then s0 = (if (tp n s).2.2 ≠ 0 then ([], [], (tp n s).2.2) else (ps ++ (tp n s).1, (tp n s).2.1, 0)) else s0 = ([], [], e)
theorem TkS.step {s0 : List Pr × List UInt8 × Nat} {n : Nat} {s a s1 b s2 : List UInt8} {ps : List Pr} (h : TkS s0 (n + 1) s 0 ps) (h1 : takeText s 40 = (a, s1, 0)) (h2 : takeText s1 40 = (b, s2, 0)) : TkS s0 n s2 0 (ps ++ [(a, b)]) := by
  unfold TkS at *
  rw [if_pos rfl] at *
  rw [h]
  simp only [tp, h1, h2]
  simp only [ne_eq, not_true, if_false]
  split
  · rename_i h3
    simp
  · rename_i h3
    simp
theorem TkS.bad1 {s0 : List Pr × List UInt8 × Nat} {n e1 : Nat} {s a s1 : List UInt8} {ps : List Pr} (h : TkS s0 (n + 1) s 0 ps) (h1 : takeText s 40 = (a, s1, e1)) (he : e1 ≠ 0) : s0 = ([], [], e1) := by
  unfold TkS at *
  rw [if_pos rfl] at h
  rw [h]
  simp [tp, h1, he]
theorem TkS.bad2 {s0 : List Pr × List UInt8 × Nat} {n e2 : Nat} {s a s1 b s2 : List UInt8} {ps : List Pr} (h : TkS s0 (n + 1) s 0 ps) (h1 : takeText s 40 = (a, s1, 0)) (h2 : takeText s1 40 = (b, s2, e2)) (he : e2 ≠ 0) : s0 = ([], [], e2) := by
  unfold TkS at *
  rw [if_pos rfl] at h
  rw [h]
  simp [tp, h1, h2, he]
theorem TkS.bad {s0 : List Pr × List UInt8 × Nat} {n e : Nat} (s : List UInt8) (ps : List Pr) (h : s0 = ([], [], e)) (he : e ≠ 0) : TkS s0 n s e ps := by
  unfold TkS; rw [if_neg he]; exact h
theorem TkS.end_ {s0 : List Pr × List UInt8 × Nat} {s : List UInt8} {ps : List Pr} (h : TkS s0 0 s 0 ps) : s0 = (ps, s, 0) := by
  unfold TkS at h
  simpa [tp] using h

theorem set_ty : ElemTy Tryz.prog 93 155 (.agg #[.string ByteArray.empty, .string ByteArray.empty]) 2 32 :=
  ⟨Tryz.underlying93, info_parts (show (Tryz.prog.info? 155).map (fun i => (i.zero, i.size, i.bytes)) = some (some (.agg #[.string ByteArray.empty, .string ByteArray.empty]), 2, 32) by kernel_rfl), rfl⟩

def RetTk (w : World) (s : List UInt8) (e : Ending) (w' : World) : Prop :=
  ∃ v l r c, Lab.take s = (l, r, c) ∧ e = .returned (.tuple #[v, .string (bs r), .int .i64 (c : Nat)]) ∧ NBuf w w' 155 2 v l.length (pcs l)

set_option maxHeartbeats 8000000 in
set_option maxRecDepth 10000 in
theorem take_any (s : List UInt8) (w : World) (hs : s.length ≤ 1000000000000) :
    Calls Tryz.prog 84 #[.string (bs s)] w (RetTk w s) := by
  obtain ⟨n, r, e, hm⟩ : ∃ n r e, takeMost s 8 = (n, r, e) := ⟨_, _, _, rfl⟩
  have hp := takeMost_prop s 8 (by omega)
  rw [hm] at hp
  simp only at hp
  have hn8 : e = 0 → n ≤ 8 := fun he => by
    subst he
    exact takeMost_le8 hm
  obtain ⟨s0, hs0⟩ : ∃ s0, s0 = (if e ≠ 0 then (([], [], e) : List Pr × List UInt8 × Nat) else if (tp n r).2.2 ≠ 0 then ([], [], (tp n r).2.2) else ((tp n r).1, (tp n r).2.1, 0)) := ⟨_, rfl⟩
  have htk : Lab.take s = if s0.2.2 ≠ 0 then ([], [], s0.2.2) else if chk s0.1 = true then s0 else ([], [], 3) := by
    unfold Lab.take
    rw [hm]
    simp only
    by_cases he : e = 0
    · subst he
      rw [if_neg (by simp)] at hs0
      rw [if_neg (by simp)]
      by_cases h2 : (tp n r).2.2 = 0
      · rw [if_neg (by simp [h2])] at hs0
        subst hs0
        simp [h2]
      · rw [if_pos h2] at hs0
        subst hs0
        simp [h2]
    · rw [if_pos he] at hs0 ⊢
      subst hs0
      simp [he]
  have hst : TkS s0 n r e [] := by
    unfold TkS
    split
    · rename_i he
      rw [hs0, if_neg (by simp [he])]
      rfl
    · rename_i he
      rw [hs0, if_pos he]
  have HM := Lib.hid (takeMost_of (bs s) 8 hm)
  have HTK := Lib.hid htk
  have HST := Lib.hid hst
  have HN8 := Lib.hid hn8
  have hrl : r.length ≤ s.length := hp.2.1
  clear hm hp hn8 htk hst hs0
  go_enter Tryz.func84, Tryz.ntmps84
  go_wp2_with fail
  refine (HM.out _ (by rw [bs_size]; unfold maxLen; omega) (by omega) (by omega)).mono ?_
  rintro e' w1 ⟨rfl, q, rfl⟩
  go_wp2_with fail
  go_loopw [5, 0, 6, 7] (fun a b c d wr => ∃ (n : Nat) (s' : List UInt8) (e : Nat) (ps : List Pr), a = .int .i64 n ∧ b = .string (bs s') ∧ c = .int .i64 e ∧ Hid (e = 0 → n ≤ 8 - ps.length ∧ ps.length ≤ 8) ∧ ps.length ≤ 9 ∧ s'.length ≤ s.length ∧ Hid (NBuf w wr 155 2 d ps.length (pcs ps)) ∧ Hid (TkS s0 n s' e ps) ∧ Hid (∀ p ∈ ps, p.1.length ≤ s.length)) (fun a _ _ _ _ => (intOf a).toNat)
  case atStart => exact ⟨n, r, e, [], rfl, rfl, rfl, Lib.hid (fun he => ⟨HN8.out he, by simp⟩), by simp, hrl, Lib.hid (NBuf.nil (below_draws _ _) _ _), HST, Lib.hid (by simp)⟩
  case round =>
    clear HN8 HST hrl
    obtain ⟨n, s', e, ps, rfl, rfl, rfl, hn8, hps, hsl, hnb, hts, hpl⟩ := hrel
    obtain ⟨A, c, rfl, hc⟩ := hnb.out.buf.shape
    by_cases he : e = 0
    · subst he
      rcases n with _ | n
      · have hs0 := hts.out.end_
        have hlk := lcheck_any _ ps wr hnb.out.slice (fun p hp => by have := hpl.out p hp; omega)
        by_cases hck : chk ps = true
        · have HTK2 := Lib.hid (show Lab.take s = (ps, s', 0) by rw [HTK.out, hs0]; simp [hck])
          rw [show errL ps = 0 by unfold errL; rw [if_pos hck]] at hlk
          have HK := Lib.hid hlk
          clear hs0 hlk hck
          go_wp2_with fail
          refine HK.out.mono ?_
          rintro e w2 ⟨rfl, hb⟩
          have HN4 := Lib.hid (hnb.out.then_below hb)
          clear hb
          go_wp2_with fail
          go_ret3
          exact ⟨_, _, _, _, HTK2.out, rfl, HN4.out⟩
        · have HTK2 := Lib.hid (show Lab.take s = ([], [], 3) by rw [HTK.out, hs0]; simp [hck])
          rw [show errL ps = 12 by unfold errL; rw [if_neg hck]] at hlk
          have HK := Lib.hid hlk
          clear hs0 hlk hck
          go_wp2_with fail
          refine HK.out.mono ?_
          rintro e w2 ⟨rfl, hb⟩
          have HN4 := Lib.hid (hnb.out.then_below hb)
          clear hb
          go_wp2_with fail
          go_ret3
          exact ⟨_, _, _, _, HTK2.out, rfl, NBuf.nil HN4.out.below _ _⟩
      · have hpl8 : ps.length < 8 := by have := hn8.out rfl; omega
        have hn7 : n ≤ 7 := by have := hn8.out rfl; omega
        have hnl : n + 1 + ps.length ≤ 8 := by have := hn8.out rfl; omega
        have h0 : decide (0 < ((n : Int) + 1)) = true := decide_eq_true (by omega)
        obtain ⟨x, s1, e1, h1⟩ : ∃ a b c, takeText s' 40 = (a, b, c) := ⟨_, _, _, rfl⟩
        obtain ⟨y, s2, e2, h2⟩ : ∃ a b c, takeText s1 40 = (a, b, c) := ⟨_, _, _, rfl⟩
        have hl1 := takeText_len (by omega) h1
        have hl2 := takeText_len (by omega) h2
        have T1 := Lib.hid (takeText_of (bs s') 40 h1)
        have T2 := Lib.hid (takeText_of (bs s1) 40 h2)
        have hwr := hnb.out.below.size
        by_cases he1 : e1 = 0
        · subst he1
          by_cases he2 : e2 = 0
          · subst he2
            have HT2 := Lib.hid (hts.out.step h1 h2)
            clear h1 h2
            go_wp2_with fail
            refine (T1.out _ (by rw [bs_size]; unfold maxLen; omega) (by omega) (by omega)).mono ?_
            rintro e' w2 ⟨rfl, q1, rfl⟩
            go_wp2_with fail
            refine (T2.out _ (by rw [bs_size]; unfold maxLen; omega) (by omega) (by omega)).mono ?_
            rintro e' w2 ⟨rfl, q2, rfl⟩
            have HN3 := Lib.hid (hnb.out.then_below ((((below_draws _ q1).after_alloc (.cells #[.string { data := #[] }, .string { data := #[] }] 155)).setCell (p := ⟨wr.heap.size, 0, none⟩) (Nat.le_refl _) (.string (bs x))).drewN' q2 |>.setCell (p := ⟨wr.heap.size, 1, none⟩) (Nat.le_refl _) (.string (bs y))))
            go_wp2_with (at_builtin; refine wpList_append_nlit rfl (.tmp 39) (.tmp 41) 93 rfl set_ty rfl HN3.out rfl (by simp) rfl (by simp [Value.oneCell']) (by simp only [maxLen]; omega) (by omega) ?_; intro v3 w3 hn3 _)
            have HN4 := Lib.hid hn3
            clear hn3 HN3
            go_roundw
            case rel => exact ⟨n, s2, 0, ps ++ [(x, y)], rfl, (by first | rfl | trivial), (by first | rfl | trivial), Lib.hid (fun _ => by rw [List.length_append]; simp; omega), by rw [List.length_append]; simp; omega, by omega, by rw [List.length_append, snoc_val]; exact HN4, HT2, Lib.hid (fun p hp => by rw [List.mem_append, List.mem_singleton] at hp; rcases hp with hp | rfl; exact hpl.out p hp; exact Nat.le_trans hl1.1 hsl)⟩
            case measure => simp [intOf]; try omega
          · have HT2 := Lib.hid (hts.out.bad2 h1 h2 he2)
            have HE := Lib.hid he2
            clear h1 h2 he2
            go_wp2_with fail
            refine (T1.out _ (by rw [bs_size]; unfold maxLen; omega) (by omega) (by omega)).mono ?_
            rintro e' w2 ⟨rfl, q1, rfl⟩
            go_wp2_with fail
            refine (T2.out _ (by rw [bs_size]; unfold maxLen; omega) (by omega) (by omega)).mono ?_
            rintro e' w2 ⟨rfl, q2, rfl⟩
            have HN3 := Lib.hid (hnb.out.then_below ((((below_draws _ q1).after_alloc (.cells #[.string { data := #[] }, .string { data := #[] }] 155)).setCell (p := ⟨wr.heap.size, 0, none⟩) (Nat.le_refl _) (.string (bs x))).drewN' q2 |>.setCell (p := ⟨wr.heap.size, 1, none⟩) (Nat.le_refl _) (.string (bs y))))
            go_wp2_with (at_builtin; refine wpList_append_nlit rfl (.tmp 39) (.tmp 41) 93 rfl set_ty rfl HN3.out rfl (by simp) rfl (by simp [Value.oneCell']) (by simp only [maxLen]; omega) (by omega) ?_; intro v3 w3 hn3 _)
            have HN4 := Lib.hid hn3
            clear hn3 HN3
            go_roundw
            case rel => exact ⟨n, s2, e2, ps ++ [(x, y)], rfl, rfl, rfl, Lib.hid (fun h => absurd h HE.out), by rw [List.length_append]; simp; omega, by omega, by rw [List.length_append, snoc_val]; exact HN4, Lib.hid (TkS.bad _ _ HT2.out HE.out), Lib.hid (fun p hp => by rw [List.mem_append, List.mem_singleton] at hp; rcases hp with hp | rfl; exact hpl.out p hp; exact Nat.le_trans hl1.1 hsl)⟩
            case measure => simp [intOf]; try omega
        · have HT2 := Lib.hid (hts.out.bad1 h1 he1)
          have HE := Lib.hid he1
          have hb : ((e1 : Int) == 0) = false := by rw [beq_eq_false_iff_ne]; omega
          clear h1 h2 he1
          go_wp2_with fail
          refine (T1.out _ (by rw [bs_size]; unfold maxLen; omega) (by omega) (by omega)).mono ?_
          rintro e' w2 ⟨rfl, q1, rfl⟩
          have HN3 := Lib.hid (hnb.out.then_below (((below_draws _ q1).after_alloc (.cells #[.string { data := #[] }, .string { data := #[] }] 155)).setCell (p := ⟨wr.heap.size, 0, none⟩) (Nat.le_refl _) (.string (bs x))))
          go_wp2_with (at_builtin; refine wpList_append_nlit rfl (.tmp 39) (.tmp 41) 93 rfl set_ty rfl HN3.out rfl (by simp) rfl (by simp [Value.oneCell']) (by simp only [maxLen]; omega) (by omega) ?_; intro v3 w3 hn3 _)
          have HN4 := Lib.hid hn3
          clear hn3 HN3
          go_roundw
          case rel => exact ⟨n, s1, e1, ps ++ [(x, [])], rfl, rfl, rfl, Lib.hid (fun h => absurd h HE.out), by rw [List.length_append]; simp; omega, by omega, by rw [List.length_append, snoc_val]; exact HN4, Lib.hid (TkS.bad _ _ HT2.out HE.out), Lib.hid (fun p hp => by rw [List.mem_append, List.mem_singleton] at hp; rcases hp with hp | rfl; exact hpl.out p hp; exact Nat.le_trans hl1.1 hsl)⟩
          case measure => simp [intOf]; try omega
    · have hts2 : s0 = ([], [], e) := by have := hts.out; unfold TkS at this; rwa [if_neg he] at this
      have htk2 : Lab.take s = ([], [], e) := by rw [HTK.out, hts2]; simp [he]
      have HTK2 := Lib.hid htk2
      have hb : ((e : Int) == 0) = false := by rw [beq_eq_false_iff_ne]; omega
      have hb2 : ((e : Int) != 0) = true := by rw [bne_iff_ne]; omega
      have hbl := hnb.out.below
      clear hts2 htk2 he
      rcases n with _ | n
      · go_wp2_with fail
        go_ret3
        exact ⟨_, _, _, _, HTK2.out, rfl, NBuf.nil hbl _ _⟩
      · have h0 : decide (0 < ((n : Int) + 1)) = true := decide_eq_true (by omega)
        go_wp2_with fail
        go_ret3
        exact ⟨_, _, _, _, HTK2.out, rfl, NBuf.nil hbl _ _⟩

end Go.Proofs.YtnoebccoaeiakaaGreatDoor

namespace Go.Bar.Hd
open Go.RowKit Go.Bar Go.Bar.Leb Go.Bar.Lab Go.Bar.Xor Go.Bar.Mrg
structure WInv (x : Rp) (N : Nat) : Prop where
  gd : Gd x.h
  nx : x.h.length + 1 ≤ x.nx
  len : x.nx ≤ 1000002
  lab : ∀ n L, x.sets n = some L → Ok L
  hl : x.h.length ≤ N
  rw_ : ∀ r ∈ x.h, r.2.length ≤ N
theorem WInv.start : WInv x0 0 := ⟨Gd.nil, Nat.le_refl _, by decide, fun n L h => (by cases h), Nat.le_refl _, fun r hr => (by cases hr)⟩
theorem WInv.step {x : Rp} {N : Nat} (h : WInv x N) {i : It} (hp : PreR x i) : WInv (stepR x i) (N + 1) := by
  cases i with
  | ser n L =>
    obtain ⟨h1, h2, h3⟩ := hp
    refine ⟨h.gd, Nat.le_trans h.nx (Nat.le_max_left _ _), ?_, fun m M hm => ?_, Nat.le_succ_of_le h.hl, fun r hr => Nat.le_succ_of_le (h.rw_ r hr)⟩
    · have := h.len
      show max x.nx (n + 1) ≤ _
      omega
    · have hm : (if m = n then some L else x.sets m) = some M := hm
      split at hm
      · injection hm with hm; rw [← hm]; exact h3
      · exact h.lab m M hm
  | smp n s =>
    obtain ⟨h1, h2, L, hL, hok, hi⟩ := hp
    have e : stepR x (.smp n s) = ⟨addM x.h L s, x.sets, max x.nx (n + 1)⟩ := by
      show (match x.sets n with | some L => _ | none => _) = _
      rw [hL]
    rw [e]
    have hlen := addM_len x.h L s
    have hnx := h.nx
    have hln := h.len
    have hhl := h.hl
    refine ⟨h.gd.add hok, ?_, by show max x.nx (n + 1) ≤ _; omega, h.lab, by show (addM x.h L s).length ≤ _; split at hlen <;> omega, addM_rows h.rw_ L s⟩
    show (addM x.h L s).length + 1 ≤ max x.nx (n + 1)
    rcases hi with hi | ⟨hi, hn⟩
    · rw [hi] at hlen
      simp only [reduceCtorEq, if_false] at hlen
      omega
    · rw [if_pos hi] at hlen
      omega
theorem presR_at {l : List It} {x : Rp} (h : PresR x l) {j : Nat} {i : It} (hi : l[j]? = some i) : PreR (runR x (l.take j)) i ∧ runR x (l.take (j + 1)) = stepR (runR x (l.take j)) i := by
  have h1 := presR_take h (j + 1)
  rw [List.take_add_one, hi, Option.toList_some, presR_app] at h1
  refine ⟨h1.2.1, ?_⟩
  rw [List.take_add_one, hi, Option.toList_some]
  unfold runR
  rw [List.foldl_append]
  rfl
variable {P : Program} {T : HTy} {ti : TypeId} {w w' : World} {p H : Nat} {c : Cfg} {h : List Row} {g : Hg}
theorem HdAt.keepZ (k : HdAt P T ti w p H c h g) {Ts : TypeId → Prop} {Ms : Nat → Prop} (x : Kx Ts Ms w w') (h0 : ∀ t ∈ [T.hd, T.sr, T.ix, T.sm, T.pr, T.it], ¬ Ts t) (h3 : ∀ b, Ms b → g.Z b) : HdAt P T ti w' p H c h g := by
  simp only [List.mem_cons, List.not_mem_nil, or_false, forall_eq_or_imp, forall_eq] at h0
  obtain ⟨a1, a2, a3, a4, a5, a6⟩ := h0
  exact ⟨x.blk k.hd a1, k.hp, x.map k.rf (fun e => k.hZ.1 (h3 _ e)), x.map k.of_ (fun e => k.hZ.2 (h3 _ e)), k.hR, k.hO, k.hZ, fun i r hi => (k.sr i r hi).keep x a2 a5 a4, k.qi, k.si, k.ix.keep x a3 a6 (fun b _ hb e => hb (.inr (.inr (h3 b e)))), k.nn, k.gn⟩
end Go.Bar.Hd
namespace Go.Proofs.YtnoebccoaeiakaaGreatDoor
open Go.RowKit Go.Bar Go.Bar.Leb Go.Bar.Lab Go.Bar.Xor Go.Bar.Mrg Go.Bar.Hd
attribute [local go_sem] Oper.semAt_some
structure RpAt (w : World) (p H : Nat) (c : Cfg) (S N : Nat) (x : Rp) (g : Hg) : Prop where
  k : HdAt Tryz.prog hty 3 w p H c x.h g
  nx : g.nx = x.nx
  z : g.Z S
  hS : H ≤ S
  hs : ∃ n F, n ≤ N ∧ MfAt Tryz.prog 3 kyZ elS nilS w S n F ∧ ∀ (m : Nat) L, x.sets m = some L → ∃ sl, F (m : Int) = some sl ∧ Buf w 155 2 (elS.enc sl) L.length (pcs L)
theorem RpAt.below {w w' : World} {p H : Nat} {c : Cfg} {S N : Nat} {x : Rp} {g : Hg} (r : RpAt w p H c S N x g) (hb : Below w.heap.size w w') : RpAt w' p H c S N x g := by
  obtain ⟨n, F, h1, h2, h3⟩ := r.hs
  exact ⟨r.k.below hb, r.nx, r.z, r.hS, n, F, h1, h2.below hb, fun m L hm => (h3 m L hm).elim fun sl ⟨a, b⟩ => ⟨sl, a, b.below hb⟩⟩
def RetRp (w : World) (p H : Nat) (c : Cfg) (S N : Nat) (x : Rp) (g : Hg) (e : Ending) (w' : World) : Prop :=
  ∃ g', e = .returned (.int .i64 0) ∧ RpAt w' p H c S N x g' ∧ Below H w w' ∧ g'.n ≤ g.n + 1

set_option maxHeartbeats 4000000 in
set_option maxRecDepth 10000 in
theorem hreplayS_any (p H : Nat) (c : Cfg) (S N : Nat) (x : Rp) (g : Hg) (n : Nat) (L : List Pr) (w : World) (r : RpAt w p H c S N x g) (hn1 : 1 ≤ n) (hn2 : n ≤ 1000000) (hok : Ok L) (hnx : x.nx ≤ 1000002) (hN : N ≤ 100000) (hH : H ≤ w.heap.size) :
    Calls Tryz.prog 47 #[.pointer (some ⟨p, 0, none⟩), .agg #[.int .u8 1, .string (bs (u n ++ key L))], .map (some S)] w (RetRp w p H c S (N + 1) (stepR x (.ser n L)) g) := by
  have hun := u_len n (by omega)
  have hkl := key_le hok
  have htm := Lib.hid (fun wx => takeMost_of (v := n) (e := 0) (r := key L) (bs (u n ++ key L)) 1099511627776 (by rw [bs_data]; exact takeMost_u n (key L) 1099511627776 (by omega) (by omega)) wx (by rw [bs_size, List.length_append]; unfold maxLen; omega) (by omega) (by omega))
  have htk := Lib.hid (fun wx => take_any (key L) wx (by omega))
  have htk2 : Lab.take (key L) = (L, [], 0) := by have := take_key hok []; rwa [List.append_nil] at this
  have HTK := Lib.hid htk2
  have HR := Lib.hid r
  have HOK := Lib.hid hok
  have hL0 : 0 < L.length := hok.1
  clear r hok htk2
  go_enter Tryz.func47, Tryz.ntmps47
  go_upto_region 9 with (go_at_call 82; refine (htm.out _).mono ?_; rintro e w1 ⟨rfl, q1, rfl⟩)
  have hb1 : Below w.heap.size w ((w.alloc (.cells #[.int .u8 1, .string (bs (u n ++ key L))] 112)).drewN q1) := below_trans (below_alloc1 w _) (below_draws _ q1)
  obtain ⟨w1, hw1⟩ : ∃ w1, w1 = (w.alloc (.cells #[.int .u8 1, .string (bs (u n ++ key L))] 112)).drewN q1 := ⟨_, rfl⟩
  rw [← hw1] at hb1 ⊢
  clear hw1
  go_upto_region 12 with (go_at_call 84; refine (htk.out _).mono ?_; rintro e w2 ⟨v2, L2, r2, e2, hz, rfl, hn2'⟩; rw [HTK.out] at hz; injection hz with hz1 hz; injection hz with hz2 hz3; subst hz1; subst hz2; subst hz3; obtain ⟨tA, tc, rfl, _⟩ := hn2'.buf.shape)
  have hbu := hn2'.buf
  obtain ⟨sl, hsl⟩ := encS_of hbu hL0
  have hb2 := below_trans hb1 hn2'.below
  have HR2 := Lib.hid (HR.out.below hb2)
  obtain ⟨m, F, hm, hM, hset⟩ := HR2.out.hs
  have HM := Lib.hid hM
  have hml : m < maxLen := by unfold maxLen; omega
  have HBU := Lib.hid hbu
  have HSET := Lib.hid hset
  have hd2 := HR2.out.k.hd
  unfold hdC at hd2
  have c6 : w2.cell? ⟨p, 6, none⟩ = some (.int .i64 (g.nx : Nat)) := hd2.cell (i := 6) rfl
  have hgx := HR2.out.nx
  have hgx2 : g.nx ≤ 1000002 := by omega
  obtain ⟨NX, hNX⟩ : ∃ NX : Int, NX = (g.nx : Nat) := ⟨_, rfl⟩
  have hNX1 : 0 ≤ NX := by omega
  have hNX2 : NX ≤ 1000002 := by omega
  rw [← hNX] at c6
  have HNX := Lib.hid hNX
  have HB2 := Lib.hid hb2
  have hH2 := Nat.le_trans hH hb2.size
  clear hn2' hbu hM hset hb1 hb2 hNX
  go_upto_region 13 with (at_mapUpdate; refine wpList_update_mf rfl _ _ _ 133 rfl mtyS rfl HM.out hml (n : Int) rfl ⟨by omega, by omega⟩ sl hsl ?_; intro w3 hm3 hg3)
  have hX3 : Kx (fun _ => False) (· = S) w2 w3 := Kx.of_map HM.out.is_map hg3 rfl
  have hk3 := HR2.out.k.keepZ hX3 (fun _ _ h => h) (fun b e => by rw [e]; exact HR2.out.z)
  have hd3 : Blk w3 p hty.hd _ := hX3.blk hd2 id
  have c6b : w3.cell? ⟨p, 6, none⟩ = some (.int .i64 NX) := by rw [HNX.out]; exact hd3.cell (i := 6) rfl
  have f6b := hd3.free 6
  have HB3 := Lib.hid ((HB2.out.mono hH).trans (below_grown hg3 HR2.out.hS hH2))
  obtain ⟨MX, hm1, hm2⟩ : ∃ MX : Nat, MX = max g.nx (n + 1) ∧ (MX : Int) = max NX ((n : Int) + 1) := ⟨_, rfl, by rw [HNX.out]; omega⟩
  have hfin : RetRp w p H c S (N + 1) (stepR x (.ser n L)) g (.returned (.int .i64 0)) (w3.setCell ⟨p, 6, none⟩ (.int .i64 (MX : Nat))) := by
    refine ⟨{ g with nx := MX }, rfl, ⟨hk3.next MX, ?_, HR2.out.z, HR2.out.hS, m + 1, _, by omega, hm3.set p 6 _, fun k M hk => ?_⟩, HB3.out.trans ((Below.refl H w3).setCell HR2.out.k.hp _), by show g.n ≤ _; omega⟩
    · show MX = max x.nx (n + 1)
      rw [hm1, hgx]
    · have hk : (if k = n then some L else x.sets k) = some M := hk
      by_cases hkn : k = n
      · subst hkn
        rw [if_pos rfl] at hk
        injection hk with hk
        subst hk
        refine ⟨sl, updF_same _ _ _, ?_⟩
        have h1 := (hX3.buf HBU.out id).set_ne hd3 (by decide) 6 (.int .i64 (MX : Nat))
        rw [hsl] at h1
        exact h1
      · rw [if_neg hkn] at hk
        obtain ⟨sl', a, b⟩ := HSET.out k M hk
        refine ⟨sl', (updF_ne _ _ (fun e => hkn (by omega))).trans a, ?_⟩
        exact (hX3.buf b id).set_ne hd3 (by decide) 6 (.int .i64 (MX : Nat))
  rw [hm2] at hfin
  have HFIN := Lib.hid hfin
  clear hfin hm1 hm2 hk3 hd3 hX3 hm3 hg3 HM HR2 HBU HSET HB2 HB3 hd2 c6 hgx
  go_wp2_with fail
  go_ret
  exact HFIN.out

set_option maxHeartbeats 1000000 in
set_option maxRecDepth 10000 in
theorem hreplayM_any (p H : Nat) (c : Cfg) (S N : Nat) (x : Rp) (g : Hg) (n : Nat) (s : Sm) (w : World) (r : RpAt w p H c S N x g) (hW : WInv x N) (hp : PreR x (.smp n s)) (hgn : g.n ≤ N) (hN : N ≤ 90000) (hH : H ≤ w.heap.size) :
    Calls Tryz.prog 47 #[.pointer (some ⟨p, 0, none⟩), .agg #[.int .u8 2, .string (bs (u n ++ u s.1.toNat ++ u s.2))], .map (some S)] w (RetRp w p H c S (N + 1) (stepR x (.smp n s)) g) := by
  obtain ⟨hn1, hn2, L, hL, hop, hi⟩ := hp
  obtain ⟨T, V⟩ := s
  obtain ⟨ht1, ht2, ht3⟩ := hop.tm
  simp only at ht1 ht2 ht3
  obtain ⟨t, rfl⟩ : ∃ t : Nat, T = (t : Int) := ⟨T.toNat, by omega⟩
  simp only [Int.toNat_natCast]
  have hun := u_len n (by omega)
  have hut := u_len t (by omega)
  have huv := u_len V (by omega)
  have htm := Lib.hid (fun wx => takeMost_of (v := n) (e := 0) (r := u t ++ u V) (bs (u n ++ u t ++ u V)) 1099511627776 (by rw [bs_data, List.append_assoc]; exact takeMost_u n _ 1099511627776 (by omega) (by omega)) wx (by rw [bs_size, List.length_append, List.length_append]; unfold maxLen; omega) (by omega) (by omega))
  have htt := Lib.hid (fun wx => takeMost_of (v := t) (e := 0) (r := u V) (bs (u t ++ u V)) 1099511627775 (by rw [bs_data]; exact takeMost_u t _ 1099511627775 (by omega) (by omega)) wx (by rw [bs_size, List.length_append]; unfold maxLen; omega) (by omega) (by omega))
  have htv := Lib.hid (fun wx => takeUint_of (v := V) (e := 0) (r := []) (bs (u V)) (by rw [bs_data]; have := takeU_u V [] ht3; rwa [List.append_nil] at this) wx (by rw [bs_size]; unfold maxLen; omega))
  have HR := Lib.hid r
  have HW := Lib.hid hW
  have HOP := Lib.hid hop
  have HI := Lib.hid hi
  have HL := Lib.hid hL
  obtain ⟨X, hX⟩ : ∃ X, X = u n ++ u t ++ u V := ⟨_, rfl⟩
  obtain ⟨Y, hY⟩ : ∃ Y, Y = u t ++ u V := ⟨_, rfl⟩
  simp only [← hX, ← hY] at htm htt ⊢
  clear r hW hop hi hL hX hY
  go_enter Tryz.func47, Tryz.ntmps47
  go_upto_region 16 with (go_at_call 82; refine (htm.out _).mono ?_; rintro e w1 ⟨rfl, q1, rfl⟩)
  clear htm
  have hb1 : Below w.heap.size w ((w.alloc (.cells #[.int .u8 2, .string (bs X)] 112)).drewN q1) := below_trans (below_alloc1 w _) (below_draws _ q1)
  obtain ⟨w1, hw1⟩ : ∃ w1, w1 = (w.alloc (.cells #[.int .u8 2, .string (bs X)] 112)).drewN q1 := ⟨_, rfl⟩
  rw [← hw1] at hb1 ⊢
  clear hw1
  go_upto_region 19 with (go_at_call 82; refine (htt.out _).mono ?_; rintro e w2 ⟨rfl, q2, rfl⟩)
  go_upto_region 22 with (go_at_call 85; refine (htv.out _).mono ?_; rintro e w2 ⟨rfl, q3, rfl⟩)
  have hb3 : Below w.heap.size w (w1.drewN (q2 + q3)) := below_trans hb1 (below_draws _ (q2 + q3))
  obtain ⟨w3, hw3⟩ : ∃ w3, w3 = w1.drewN (q2 + q3) := ⟨_, rfl⟩
  rw [← hw3] at hb3 ⊢
  clear hw3 hb1 htt htv
  have HR3 := Lib.hid (HR.out.below hb3)
  obtain ⟨m, F, hm, hM, hset⟩ := HR3.out.hs
  obtain ⟨sl, hsl, hbu⟩ := hset n L HL.out
  have hlk : (Instr.lookup 133 (.map (some S)) (.int .i64 (n : Nat)) true).run Tryz.prog w3 = .ok (.tuple #[elS.enc sl, .bool true]) w3 := by
    have h1 := hM.look_ok mtyS (n : Int) ⟨by omega, by omega⟩
    rw [hsl] at h1
    exact h1
  obtain ⟨v, hv⟩ : ∃ v, v = elS.enc sl := ⟨_, rfl⟩
  rw [← hv] at hlk hbu
  have HM := Lib.hid hM
  have HSET := Lib.hid hset
  have HB3 := Lib.hid hb3
  have hH3 := Nat.le_trans hH hb3.size
  have hwn := HW.out.nx
  have hwl := HW.out.len
  have hwh := HW.out.hl
  have hgx := HR3.out.nx
  have hlt := Lib.hid (hlater_any p H c x.h g n L ((t : Int), V) v w3 HR3.out.k hbu HOP.out HW.out.gd HI.out hn1 (by rw [hgx]; exact hwn) hH3 (by omega) (by omega) (fun r hr => by have := HW.out.rw_ r hr; omega) (by omega))
  have hltc := hlt.out
  simp only at hltc
  obtain ⟨sA, sc, hvs, _⟩ := hbu.shape
  rw [hvs] at hlk hltc
  have HLT := Lib.hid hltc
  clear hltc hlt hv hvs hsl hset hM hbu hb3 hwn hwl hwh
  go_upto_region 25 with fail
  clear hlk
  go_wp2_with (go_at_call 86; refine HLT.out.mono ?_; rintro e w4 ⟨g', rfl, hk4, hx4, hz4, hn4, hnx4⟩)
  go_ret
  refine ⟨g', rfl, ⟨?_, ?_, by rw [hz4]; exact HR3.out.z, HR3.out.hS, m, F, by omega, hx4.kx.map HM.out (fun e => e.2 HR3.out.z), fun k M hk => ?_⟩, (HB3.out.mono hH).trans hx4.bel, by omega⟩
  · have e : stepR x (.smp n ((t : Int), V)) = ⟨addM x.h L ((t : Int), V), x.sets, max x.nx (n + 1)⟩ := by
      show (match x.sets n with | some L => _ | none => _) = _
      rw [HL.out]
    rw [e]
    exact hk4
  · have e : (stepR x (.smp n ((t : Int), V))).nx = max x.nx (n + 1) := by
      show (match x.sets n with | some L => _ | none => _ : Rp).nx = _
      rw [HL.out]
    rw [e, hnx4, hgx]
  · have e : (stepR x (.smp n ((t : Int), V))).sets = x.sets := by
      show (match x.sets n with | some L => _ | none => _ : Rp).sets = _
      rw [HL.out]
    rw [e] at hk
    obtain ⟨sl', a, b⟩ := HSET.out k M hk
    exact ⟨sl', a, hx4.kx.buf b nh_pair⟩
end Go.Proofs.YtnoebccoaeiakaaGreatDoor

namespace Go.Proofs.YtnoebccoaeiakaaGreatDoor
open Go.RowKit Go.Bar Go.Bar.Leb Go.Bar.Frm Go.Bar.Lab Go.Bar.Xor Go.Bar.Mrg Go.Bar.Hd
attribute [local go_sem] Oper.semAt_some
theorem frcs_at {rs : List Rc} {i : Nat} {r : Rc} (h : rs[i]? = some r) : (frcs rs)[i * 2]? = some (.int .u8 r.1.toNat) ∧ (frcs rs)[i * 2 + 1]? = some (.string (bs r.2)) := flat2 (fun r : Rc => Value.int .u8 r.1.toNat) (fun r => .string (bs r.2)) rs i r h
def RetRpl (w : World) (c : Cfg) (h : List Row) (e : Ending) (w' : World) : Prop :=
  ∃ p H g, e = .returned (.tuple #[.pointer (some ⟨p, 0, none⟩), .int .i64 0]) ∧ Below w.heap.size w w' ∧ HdAt Tryz.prog hty 3 w' p H c h g ∧ w.heap.size ≤ H

set_option maxHeartbeats 4000000 in
set_option maxRecDepth 10000 in
theorem hReplay_any (c : Cfg) (l : List It) (v : Value) (w : World) (hc : CfgOk c) (hv : Buf w 112 2 v l.length (frcs (l.map Go.Bar.Hd.encI))) (hp : PresR x0 l) (hl : l.length ≤ 80000) :
    Calls Tryz.prog 17 #[cfgV c, v] w (RetRpl w c (runR x0 l).h) := by
  obtain ⟨A, cp, rfl, hlc⟩ := hv.shape
  have hnew := Lib.hid (fun wx => hnew_any c wx hc)
  unfold cfgV at hnew ⊢
  have HV := Lib.hid hv
  have HP := Lib.hid hp
  have hmm := @run_makeMap Tryz.prog
  clear hc hv hp
  go_enter Tryz.func17, Tryz.ntmps17
  go_upto_region 5 with (go_at_call 7; refine (hnew.out _).mono ?_; rintro e w1 ⟨p, g, rfl, hb1, hk1, hnx1, hn1, hz1⟩)
  have hb01 := below_trans (below_alloc1 w (.cells #[.int .i64 c.s, .int .i64 c.m, .int .i64 c.w] 26)) hb1
  obtain ⟨H, hH⟩ : ∃ H, H = (w.alloc (.cells #[.int .i64 c.s, .int .i64 c.m, .int .i64 c.w] 26)).heap.size := ⟨_, rfl⟩
  have hH0 : w.heap.size ≤ H := by rw [hH]; exact (below_alloc1 w _).size
  have hH1 : H ≤ w1.heap.size := by rw [hH]; exact hb1.size
  rw [← hH] at hk1
  have hba := below_alloc1 w1 (.map #[] 0)
  have hb02 := below_trans hb01 hba
  have hk2 := hk1.reserve w1.heap.size (Nat.le_refl _) hba (by simp)
  have hm2 := MfAt.made w1 Tryz.prog 3 kyZ elS nilS
  obtain ⟨S, hS⟩ : ∃ S, S = w1.heap.size := ⟨_, rfl⟩
  obtain ⟨w2, hw2⟩ : ∃ w2, w2 = w1.alloc (.map #[] 0) := ⟨_, rfl⟩
  rw [← hw2] at hb02 hk2 hm2 ⊢
  rw [← hS] at hk2 hm2 hH1 ⊢
  have HR0 : Hid (RpAt w2 p H c S 0 x0 { g with Z := fun x => g.Z x ∨ x = S }) := Lib.hid ⟨hk2, hnx1, .inr rfl, hH1, 0, _, Nat.le_refl _, hm2, fun m L hm => (by cases hm)⟩
  have hH2 : H ≤ w2.heap.size := by rw [hw2]; simp; omega
  have HB2 := Lib.hid hb02
  have hgn0 : g.n = 0 := hn1
  have HW0 := Lib.hid WInv.start
  obtain ⟨g0, hg0⟩ : ∃ g0 : Hg, g0 = { g with Z := fun x => g.Z x ∨ x = S } := ⟨_, rfl⟩
  have hgn : g0.n ≤ 0 := by rw [hg0]; exact Int.le_of_eq hgn0
  rw [← hg0] at HR0
  clear hmm hb1 hk1 hnx1 hn1 hz1 hb01 hba hb02 hk2 hm2 hS hw2 hH hnew hg0 hgn0
  go_wp2_with fail
  go_loopw [23] (fun i wr => ∃ (j : Nat) (gj : Hg), i = .int .i64 j ∧ j ≤ l.length ∧ Hid (RpAt wr p H c S j (runR x0 (l.take j)) gj) ∧ Hid (WInv (runR x0 (l.take j)) j) ∧ gj.n ≤ j ∧ Hid (Below w.heap.size w wr) ∧ H ≤ wr.heap.size) (fun i _ => l.length - (intOf i).toNat)
  case atStart => exact ⟨0, g0, rfl, Nat.zero_le _, HR0, HW0, by simpa using hgn, HB2, hH2⟩
  case round =>
    clear HR0 HW0 hgn HB2 hH2
    obtain ⟨j, gj, rfl, hj, HR, HW, hgn, HB, hHr⟩ := hrel
    by_cases hgo : j < l.length
    · obtain ⟨it, hit⟩ : ∃ it, l[j]? = some it := ⟨_, List.getElem?_eq_getElem hgo⟩
      have hit2 : (l.map Go.Bar.Hd.encI)[j]? = some (Go.Bar.Hd.encI it) := by rw [List.getElem?_map, hit]; rfl
      obtain ⟨b, o, rfl, hlt, hcell⟩ := (HV.out.below HB.out).cell (by omega)
      obtain ⟨r0, r1⟩ := frcs_at hit2
      have c0 := (hcell (j * 2) (by omega)).trans r0
      have c1 := (hcell (j * 2 + 1) (by omega)).trans r1
      rw [← Nat.add_assoc] at c1
      obtain ⟨hpre, hstep⟩ := presR_at HP.out hit
      have hci : (0 : Int) ≤ (j : Int) := by omega
      have hci2 : (j : Int) < l.length := by omega
      have hba := fun x y => below_alloc1 wr (.cells #[.int .u8 x, .string y] 112)
      have hcall : ∀ wx, Below wr.heap.size wr wx → Calls Tryz.prog 47 #[.pointer (some ⟨p, 0, none⟩), .agg #[.int .u8 (Go.Bar.Hd.encI it).1.toNat, .string (bs (Go.Bar.Hd.encI it).2)], .map (some S)] wx (RetRp wx p H c S (j + 1) (stepR (runR x0 (l.take j)) it) gj) := fun wx hb => by
        cases it with
        | ser n L =>
          obtain ⟨h1, h2, h3⟩ := hpre
          exact hreplayS_any p H c S j _ gj n L wx (HR.out.below hb) h1 h2 h3 HW.out.len (by omega) (Nat.le_trans hHr hb.size)
        | smp n s => exact hreplayM_any p H c S j _ gj n s wx (HR.out.below hb) HW.out hpre hgn (by omega) (Nat.le_trans hHr hb.size)
      have HC := Lib.hid hcall
      have HW2 : Hid (WInv (runR x0 (l.take (j + 1))) (j + 1)) := Lib.hid (by rw [hstep]; exact HW.out.step hpre)
      have HST := Lib.hid hstep
      obtain ⟨kd, hkd⟩ : ∃ kd : Nat, kd = (Go.Bar.Hd.encI it).1.toNat := ⟨_, rfl⟩
      obtain ⟨D, hD⟩ : ∃ D, D = (Go.Bar.Hd.encI it).2 := ⟨_, rfl⟩
      rw [← hkd] at c0 HC
      rw [← hD] at c1 HC
      clear hcall hstep hpre hit hit2 r0 r1 hcell hkd hD hlt HR HW
      go_upto_region 8 with fail
      have hb2 := below_alloc1 wr (.cells #[.int .u8 (kd : Nat), .string (bs D)] 112)
      have hcl := HC.out _ hb2
      have HB2 := Lib.hid (below_trans HB.out hb2)
      have hH2 := Nat.le_trans hHr hb2.size
      have HCL := Lib.hid hcl
      clear hcl HC hb2 hba
      go_wp2_with (go_at_call 47; refine HCL.out.mono ?_; rintro e w4 ⟨g', rfl, r', hbel, hn'⟩)
      have HR4 : Hid (RpAt w4 p H c S (j + 1) (runR x0 (l.take (j + 1))) g') := Lib.hid (by rw [HST.out]; exact r')
      have HB4 := Lib.hid (HB2.out.trans (hbel.mono hH0))
      have hH4 := Nat.le_trans hH2 hbel.size
      clear r' hbel HCL HST
      go_roundw
      case rel => exact ⟨j + 1, g', by go_num, by omega, HR4, HW2, by push_cast; omega, HB4, hH4⟩
      case measure => simp [intOf]; omega
    · obtain rfl : j = l.length := by omega
      have hk := HR.out.k
      rw [List.take_length] at hk
      have HK := Lib.hid hk
      clear hk HR
      go_wp2_with fail
      go_ret2
      exact ⟨p, H, gj, rfl, HB.out, HK.out, hH0⟩
end Go.Proofs.YtnoebccoaeiakaaGreatDoor

namespace Go.Proofs.YtnoebccoaeiakaaGreatDoor
open Go.RowKit Go.Bar Go.Bar.Leb Go.Bar.Lab

theorem cmpL_step {a b : List Pr} {k : Nat} {p q : Pr} (ha : a[k]? = some p) (hb : b[k]? = some q) : cmpL (a.drop k) (b.drop k) = if cmpP p q ≠ 0 then cmpP p q else cmpL (a.drop (k + 1)) (b.drop (k + 1)) := by
  obtain ⟨h1, rfl⟩ := List.getElem?_eq_some_iff.1 ha
  obtain ⟨h2, rfl⟩ := List.getElem?_eq_some_iff.1 hb
  rw [List.drop_eq_getElem_cons h1, List.drop_eq_getElem_cons h2]
  rfl
theorem cmpL_right {a b : List Pr} {k : Nat} (ha : k < a.length) (hb : b.length ≤ k) : cmpL (a.drop k) (b.drop k) = 1 := by
  rw [List.drop_eq_getElem_cons ha, List.drop_of_length_le hb]
  rfl
theorem cmpL_end {a b : List Pr} : cmpL (a.drop a.length) (b.drop a.length) = if a.length < b.length then -1 else 0 := by
  rw [List.drop_length]
  split
  · rename_i h
    rw [List.drop_eq_getElem_cons h]
    rfl
  · rename_i h
    rw [List.drop_of_length_le (by omega)]
    rfl

end Go.Proofs.YtnoebccoaeiakaaGreatDoor

namespace Go.Proofs.YtnoebccoaeiakaaGreatDoor
open Go.RowKit Go.Bar Go.Bar.Leb Go.Bar.Lab
def Gr (w w' : World) : Prop := ∃ q os, w' = Sort.grow (w.drewN q) os
theorem Gr.refl (w : World) : Gr w w := ⟨0, #[], by simp [Sort.grow, World.drewN]⟩
theorem Gr.alloc (w : World) (o : Obj) : Gr w (w.alloc o) := ⟨0, _, by rw [Sort.alloc_eq_grow]; rfl⟩
theorem Gr.below {w w' : World} (h : Gr w w') : Below w.heap.size w w' := by
  obtain ⟨q, os, rfl⟩ := h
  refine (below_draws w q).trans ?_
  exact ⟨rfl, rfl, rfl, by rw [Sort.size_grow]; exact Nat.le_add_right _ _, fun k hk => Sort.heap_grow_old _ _ hk⟩
theorem Gr.trans {a b c : World} (h : Gr a b) (k : Gr b c) : Gr a c := by
  obtain ⟨q, os, rfl⟩ := h
  obtain ⟨q2, os2, rfl⟩ := k
  exact ⟨q + q2, os ++ os2, by simp [Sort.grow, World.drewN, Nat.add_assoc]⟩
def RetGr (w : World) (v : Value) (e : Ending) (w' : World) : Prop := e = .returned v ∧ Gr w w'

set_option maxHeartbeats 1000000 in
theorem byBothG_any (p q : Pr) (w : World) : Calls Tryz.prog 106 #[.agg #[.string (bs p.1), .string (bs p.2)], .agg #[.string (bs q.1), .string (bs q.2)]] w
    (RetGr w (.int .i64 (cmpP p q))) := by
  have hcon := compare_any p.1 q.1
  have hcon2 := compare_any p.2 q.2
  have hbl : Gr w ((w.alloc (.cells #[.string (bs p.1), .string (bs p.2)] 155)).alloc (.cells #[.string (bs q.1), .string (bs q.2)] 155)) := Gr.trans (Gr.alloc _ _) (Gr.alloc _ _)
  unfold cmpP
  by_cases h0 : cmpB p.1 q.1 = 0
  · rw [if_neg (by omega)]
    rw [h0] at hcon
    have HC := Lib.hid hcon
    have HC2 := Lib.hid hcon2
    clear hcon hcon2 h0
    go_enter Tryz.func106, Tryz.ntmps106
    go_wp2_with fail
    refine (HC.out _).mono ?_
    rintro e w' ⟨rfl, rfl⟩
    go_wp2_with fail
    refine (HC2.out _).mono ?_
    rintro e w' ⟨rfl, rfl⟩
    go_wp2_with fail
    go_ret
    exact ⟨rfl, hbl⟩
  · rw [if_pos h0]
    have hb : (cmpB p.1 q.1 != 0) = true := by rw [bne_iff_ne]; exact h0
    obtain ⟨z, hz⟩ : ∃ z, cmpB p.1 q.1 = z := ⟨_, rfl⟩
    rw [hz] at hcon hb ⊢
    have HC := Lib.hid hcon
    clear hcon hcon2 h0 hz
    go_enter Tryz.func106, Tryz.ntmps106
    go_wp2_with fail
    refine (HC.out _).mono ?_
    rintro e w' ⟨rfl, rfl⟩
    go_wp2_with fail
    go_ret
    exact ⟨rfl, hbl⟩

set_option maxHeartbeats 4000000 in
set_option maxRecDepth 10000 in
theorem compareFuncG_any (v v' : Value) (a b : List Pr) (w : World) (h : PsAt w v a) (h' : PsAt w v' b) :
    Calls Tryz.prog 105 #[v, v', .func (.func 106) #[] #[]] w (RetGr w (.int .i64 (cmpL a b))) := by
  obtain ⟨A, c, rfl, hlc, hcm⟩ := h.shape
  obtain ⟨A', c', rfl, hlc', hcm'⟩ := h'.shape
  unfold maxLen at hcm hcm'
  obtain ⟨Z, hZ⟩ : ∃ Z, Z = cmpL a b := ⟨_, rfl⟩
  rw [← hZ]
  have HZ := Lib.hid hZ
  clear hZ
  go_enter Tryz.func105, Tryz.ntmps105
  go_wp2_with fail
  go_loopw [13] (fun i wr => ∃ k : Nat, k ≤ a.length ∧ i = .int .i64 k ∧ Gr w wr ∧ Hid (Z = cmpL (a.drop k) (b.drop k))) (fun i _ => a.length - (intOf i).toNat)
  case atStart => exact ⟨0, Nat.zero_le _, rfl, Gr.refl _, HZ⟩
  case round =>
    obtain ⟨k, hk, rfl, hbl, hz⟩ := hrel
    by_cases hgo : k < a.length
    · obtain ⟨p, hpk⟩ : ∃ p, a[k]? = some p := ⟨_, List.getElem?_eq_getElem hgo⟩
      obtain ⟨ba, oa, rfl, hba, g1, g2⟩ := (h.below hbl.below).at_ hpk
      by_cases hgb : k < b.length
      · obtain ⟨q, hqk⟩ : ∃ q, b[k]? = some q := ⟨_, List.getElem?_eq_getElem hgb⟩
        obtain ⟨bb, ob, rfl, hbb, f1, f2⟩ := (h'.below hbl.below).at_ hqk
        have hd : decide ((b.length : Int) ≤ (k : Int)) = false := decide_eq_false (by omega)
        have HS := Lib.hid (cmpL_step hpk hqk)
        have hc := byBothG_any p q
        clear hpk hqk
        have hbl2 : Gr w ((wr.alloc (.cells #[.string (bs p.1), .string (bs p.2)] 155)).alloc (.cells #[.string (bs q.1), .string (bs q.2)] 155)) := Gr.trans (Gr.trans hbl (Gr.alloc _ _)) (Gr.alloc _ _)
        by_cases h0 : cmpP p q = 0
        · have hz2 : Z = cmpL (a.drop (k + 1)) (b.drop (k + 1)) := by rw [hz.out, HS.out, if_neg (by omega)]
          rw [h0] at hc
          have HC := Lib.hid hc
          have HZ2 := Lib.hid hz2
          clear hc hz2 h0 hz
          go_wp2_with fail
          refine (HC.out _).mono ?_
          rintro e w2 ⟨rfl, h2⟩
          have hbl3 := Gr.trans hbl2 h2
          clear h2
          go_wp2_with fail
          go_roundw
          case rel => exact ⟨k + 1, by omega, by go_num, hbl3, HZ2⟩
          case measure => simp [intOf]; omega
        · have hz2 : Z = cmpP p q := by rw [hz.out, HS.out, if_pos h0]
          have hb : (cmpP p q != 0) = true := by rw [bne_iff_ne]; exact h0
          rw [← hz2] at hc hb
          have HC := Lib.hid hc
          clear hc hz2 h0 hz
          go_wp2_with fail
          refine (HC.out _).mono ?_
          rintro e w2 ⟨rfl, h2⟩
          have hbl3 := Gr.trans hbl2 h2
          clear h2
          go_wp2_with fail
          go_ret
          exact ⟨rfl, hbl3⟩
      · have HZ2 := Lib.hid (show Z = 1 by rw [hz.out, cmpL_right hgo (by omega)])
        have hd : decide ((b.length : Int) ≤ (k : Int)) = true := decide_eq_true (by omega)
        clear hpk hz
        go_wp2_with fail
        go_ret
        exact ⟨by rw [HZ2.out]; rfl, Gr.trans hbl (Gr.alloc _ _)⟩
    · obtain rfl : k = a.length := by omega
      have hz2 := hz.out
      rw [cmpL_end] at hz2
      by_cases hlt : a.length < b.length
      · rw [if_pos hlt] at hz2
        have HZ2 := Lib.hid hz2
        clear hz2 hz
        go_wp2_with fail
        go_ret
        exact ⟨by rw [HZ2.out]; rfl, hbl⟩
      · rw [if_neg hlt] at hz2
        have HZ2 := Lib.hid hz2
        have hd : decide ((a.length : Int) < (b.length : Int)) = false := decide_eq_false (by omega)
        clear hz2 hz
        go_wp2_with fail
        go_ret
        exact ⟨by rw [HZ2.out]; rfl, hbl⟩

set_option maxHeartbeats 1000000 in
theorem lcompareG_any (v v' : Value) (a b : List Pr) (w : World) (h : PsAt w v a) (h' : PsAt w v' b) :
    Calls Tryz.prog 71 #[v, v'] w (RetGr w (.int .i64 (cmpL a b))) := by
  have hc := compareFuncG_any v v' a b w h h'
  obtain ⟨Z, hZ⟩ : ∃ Z, cmpL a b = Z := ⟨_, rfl⟩
  rw [hZ] at hc ⊢
  have HC := Lib.hid hc
  clear hc hZ h h'
  go_enter Tryz.func71, Tryz.ntmps71
  go_wp2_with fail
  refine HC.out.mono ?_
  rintro e w2 ⟨rfl, h2⟩
  go_wp2_with fail
  go_ret
  exact ⟨rfl, h2⟩

end Go.Proofs.YtnoebccoaeiakaaGreatDoor
