/-
  Layer 4 (disk): the fuse: a call is tried; a fault is armed; all are cleared.
-/
import Derived.Test.YtnoebccoaeiakaaGreatDoorZHdV
import Derived.Test.YtnoebccoaeiakaaGreatDoorZLib32
import Derived.BigQuiet
import Derived.BigRegion
import Derived.Deep.RegionWith
import Derived.Deep.Cut
import Derived.Test.YtnoebccoaeiakaaGreatDoorZWalV
import Derived.Test.YtnoebccoaeiakaaGreatDoorZLib22
import Derived.Deep.QuietTactic
import Derived.Shelf.Abstract
import Derived.Test.YtnoebccoaeiakaaGreatDoorZShelf

namespace Go.Proofs.YtnoebccoaeiakaaGreatDoor
open Go.RowKit Go.Bar Go.Bar.Wal Go.Conc
attribute [local go_sem] Oper.semAt_some

theorem zero_fault (w : World) : (zeroValue 115).run Tryz.prog w = .ok (.agg #[.int .i64 0, .bool false]) w := by
  go_simp
section
variable {w : World} {h : Hd} {fs : Fs} {room used : Int} {q : List (Int × Bool)} {a : Int} {b arm : Bool} {B : Nat}
theorem offU (k : DkC w h fs room used q a b arm) (hB : h.Hi B) (i : Nat) (u : Value) : Off DT0 B w (w.setCell ⟨h.U, i, none⟩ u) := Off.set k.fu (.inr rfl) hB.u i u
theorem offD0 (k : DkC w h fs room used q a b arm) (hB : h.Hi B) (i : Nat) (u : Value) : Off DT0 B w (w.setCell ⟨h.D, i, none⟩ u) := Off.set k.dk (.inl rfl) hB.d i u
theorem offD (k : DkC w h fs room used q a b arm) (hB : h.Hi B) (i : Nat) (u : Value) : Off DTs B w (w.setCell ⟨h.D, i, none⟩ u) := (offD0 k hB i u).wide dt0
theorem hiW (k : DkC w h fs room used q a b arm) (hB : h.Hi B) : B ≤ w.heap.size := Nat.le_trans hB.d (Nat.le_of_lt k.dk.lt)
end
set_option maxHeartbeats 4000000 in
set_option maxRecDepth 10000 in
theorem try_armed (w : World) (h : Hd) (fs : Fs) (room used : Int) (q : List (Int × Bool)) (a : Int) (b : Bool) (B : Nat) (k : DkC w h fs room used q a b true) (hB : h.Hi B) (ha : 0 ≤ a) (ha2 : a ≤ 9223372036854775807) :
    Calls Tryz.prog 99 #[.pointer (some ⟨h.U, 0, none⟩)] w fun e w' => e = .returned (.tuple #[.bool (decide (0 < a)), .bool (decide (0 < a) || b)]) ∧ DkC w' h fs room used q (if 0 < a then a - 1 else a) b (decide (0 < a)) ∧ Off DT0 B w w' := by
  have c0 := k.fu.cell (i := 0) rfl
  have c1 := k.fu.cell (i := 1) rfl
  have c2 := k.fu.cell (i := 2) rfl
  have c3 := k.fu.cell (i := 3) rfl
  have f1 := k.fu.free 1
  have f3 := k.fu.free 3
  by_cases h0 : 0 < a
  · go_enter Tryz.func99, Tryz.ntmps99
    go_wp2_with fail
    go_ret2
    exact ⟨rfl, k.setU 1 _ rfl, offU k hB 1 _⟩
  · have h1 : a = 0 := by omega
    subst h1
    clear h0 ha ha2
    go_enter Tryz.func99, Tryz.ntmps99
    go_upto_region 11 with fail
    go_quiet (fail)
    go_wp2_with fail
    go_ret2
    have k1 := k.setU (a' := 0) (b' := b) (arm' := false) 3 (.bool false) rfl
    exact ⟨rfl, k1.below (below_draws _ _), (offU k hB 3 _).trans (Off.of_below (below_draws _ _) (hiW k1 hB))⟩
set_option maxHeartbeats 4000000 in
set_option maxRecDepth 10000 in
theorem try_calm (w : World) (h : Hd) (fs : Fs) (room used : Int) (a : Int) (b : Bool) (k : DkC w h fs room used [] a b false) :
    Calls Tryz.prog 99 #[.pointer (some ⟨h.U, 0, none⟩)] w fun e w' => e = .returned (.tuple #[.bool true, .bool true]) ∧ w = w' := by
  have c0 := k.fu.cell (i := 0) rfl
  have c3 := k.fu.cell (i := 3) rfl
  obtain ⟨s, r, hc⟩ := k.ch
  have hc : w.heap[h.C]? = some (.chan 16 #[] false s r false) := hc
  go_enter Tryz.func99, Tryz.ntmps99
  go_upto_region 3 with fail
  refine wp_region_sel_none rfl rfl (zero_fault _) rfl hc ?_
  go_wp2_with fail
  go_ret2
  exact ⟨rfl, rfl⟩
set_option maxHeartbeats 4000000 in
set_option maxRecDepth 10000 in
theorem try_next (w : World) (h : Hd) (fs : Fs) (room used : Int) (q : List (Int × Bool)) (a0 : Int) (b0 : Bool) (a : Int) (b : Bool) (B : Nat) (k : DkC w h fs room used ((a0, b0) :: q) a b false) (hB : h.Hi B) (ha : 0 ≤ a0) (ha2 : a0 ≤ 9223372036854775807) :
    Calls Tryz.prog 99 #[.pointer (some ⟨h.U, 0, none⟩)] w fun e w' => e = .returned (.tuple #[.bool (decide (0 < a0)), .bool (decide (0 < a0) || b0)]) ∧ DkC w' h fs room used q (if 0 < a0 then a0 - 1 else a0) b0 (decide (0 < a0)) ∧ Off DT0 B w w' := by
  have c0 := k.fu.cell (i := 0) rfl
  have c3 := k.fu.cell (i := 3) rfl
  obtain ⟨s, r, hc⟩ := k.ch
  obtain ⟨W1, hW1⟩ : ∃ W1, W1 = w.setChan h.C 16 (qV q) false s (r + 1) false := ⟨_, rfl⟩
  have k1 : DkC W1 h fs room used q a b false := by rw [hW1]; exact k.chan s (r + 1)
  have o1 : Off DT0 B w W1 := by rw [hW1]; exact Off.chan hc hB.c ..
  have k2 := k1.setU (a' := a0) 1 (.int .i64 a0) rfl
  have o2 := offU k1 hB 1 (.int .i64 a0)
  have k3 := k2.setU (b' := b0) 2 (.bool b0) rfl
  have o3 := offU k2 hB 2 (.bool b0)
  have k4 := k3.setU (arm' := true) 3 (.bool true) rfl
  have o4 := offU k3 hB 3 (.bool true)
  have d0 := k1.fu.cell (i := 0) rfl
  have d1 := k1.fu.cell (i := 1) rfl
  have d2 := k1.fu.cell (i := 2) rfl
  have d3 := k1.fu.cell (i := 3) rfl
  have f1 := k1.fu.free 1
  have f2 := k1.fu.free 2
  have f3 := k1.fu.free 3
  by_cases h0 : 0 < a0
  · go_enter Tryz.func99, Tryz.ntmps99
    go_upto_region 3 with fail
    refine wp_region_sel_recv rfl rfl ⟨_, zero_fault _⟩ rfl hc (by rw [qV_size]; exact Nat.succ_pos _) ?_
    rw [qV_head, qV_tail, ← hW1]
    clear hW1 hc
    go_wp2_with fail
    go_ret2
    exact ⟨rfl, k4.setU 1 _ rfl, (((o1.trans o2).trans o3).trans o4).trans (offU k4 hB 1 _)⟩
  · have h1 : a0 = 0 := by omega
    subst h1
    clear h0 ha ha2
    go_enter Tryz.func99, Tryz.ntmps99
    go_upto_region 3 with fail
    refine wp_region_sel_recv rfl rfl ⟨_, zero_fault _⟩ rfl hc (by rw [qV_size]; exact Nat.succ_pos _) ?_
    rw [qV_head, qV_tail, ← hW1]
    clear hW1 hc
    go_upto_region 11 with fail
    go_quiet (fail)
    go_wp2_with fail
    go_ret2
    have k5 := k4.setU (arm' := false) 3 (.bool false) rfl
    exact ⟨rfl, k5.below (below_draws _ _), ((((o1.trans o2).trans o3).trans o4).trans (offU k4 hB 3 _)).trans (Off.of_below (below_draws _ _) (hiW k5 hB))⟩
theorem try_any (w : World) (h : Hd) (d : Ds) (B : Nat) (k : DkAt w h d) (hB : h.Hi B) :
    Calls Tryz.prog 99 #[.pointer (some ⟨h.U, 0, none⟩)] w (DkT DT0 B w h { d with fz := d.fz.next.2 } (.tuple #[.bool d.fz.next.1.1, .bool d.fz.next.1.2])) := by
  obtain ⟨fs, room, used, ⟨q, now⟩⟩ := d
  obtain ⟨⟨a, b, k1, k2⟩, k3, k4⟩ := k
  simp only at k1 k2 k3 k4
  have hit : ∀ (q : List (Int × Bool)) (a : Int) (b : Bool) (e : Ending) (w' : World), Rng (a, b) → (∀ x ∈ q, Rng x) → (e = .returned (.tuple #[.bool (decide (0 < a)), .bool (decide (0 < a) || b)]) ∧ DkC w' h fs room used q (if 0 < a then a - 1 else a) b (decide (0 < a)) ∧ Off DT0 B w w') →
      DkT DT0 B w h { fs := fs, room := room, used := used, fz := (Fz.hit q a b).2 } (.tuple #[.bool (Fz.hit q a b).1.1, .bool (Fz.hit q a b).1.2]) e w' := by
    rintro q a b e w' hr hq ⟨rfl, h1, h2⟩
    unfold Fz.hit
    by_cases h0 : 0 < a
    · simp only [h0, if_true, decide_true, Bool.true_or] at h1 ⊢
      refine ⟨rfl, ⟨⟨_, _, h1, fun x hx => ?_⟩, hq, fun x hx => ?_⟩, h2⟩
      · injection hx with hx; exact hx.symm
      · injection hx with hx
        subst hx
        have := hr.1
        have := hr.2
        exact ⟨by simp only; omega, by simp only at *; omega⟩
    · simp only [h0, if_false, decide_false, Bool.false_or] at h1 ⊢
      refine ⟨rfl, ⟨⟨_, _, h1, fun x hx => (by cases hx)⟩, hq, fun x hx => (by cases hx)⟩, h2⟩
  cases now with
  | some x =>
    have := k2 x rfl
    subst this
    have hr := k4 _ rfl
    exact (try_armed w h fs room used q a b B k1 hB hr.1 hr.2).mono fun e w' hh => hit q a b e w' hr k3 hh
  | none =>
    cases q with
    | nil =>
      refine (try_calm w h fs room used a b k1).mono fun e w' hh => ?_
      obtain ⟨rfl, rfl⟩ := hh
      exact ⟨rfl, ⟨⟨a, b, k1, k2⟩, k3, k4⟩, Off.refl _ _ _⟩
    | cons x q =>
      obtain ⟨a0, b0⟩ := x
      have hr := k3 _ (List.mem_cons_self ..)
      exact (try_next w h fs room used q a0 b0 a b B k1 hB hr.1 hr.2).mono fun e w' hh => hit q a0 b0 e w' hr (fun x hx => k3 x (List.mem_cons_of_mem _ hx)) hh
set_option maxHeartbeats 4000000 in
set_option maxRecDepth 10000 in
theorem arm_any (w : World) (h : Hd) (d : Ds) (B : Nat) (n : Int) (dn : Bool) (k : DkAt w h d) (hB : h.Hi B) (hn : n ≤ 9223372036854775807) :
    Calls Tryz.prog 11 #[.pointer (some ⟨h.U, 0, none⟩), .int .i64 n, .bool dn] w (DkT DT0 B w h { d with fz := (d.fz.arm n dn).2 } (.int .i64 ((d.fz.arm n dn).1 : Nat))) := by
  obtain ⟨fs, room, used, ⟨q, now⟩⟩ := d
  obtain ⟨⟨a, b, k1, k2⟩, k3, k4⟩ := k
  simp only at k1 k2 k3 k4
  have c0 := k1.fu.cell (i := 0) rfl
  obtain ⟨s, r, hc⟩ := k1.ch
  unfold Fz.arm
  simp only
  by_cases hq : q.length < 16
  · simp only [hq, if_true]
    have fin : ∀ m : Int, m = max n 0 → DkT DT0 B w h { fs := fs, room := room, used := used, fz := { q := q ++ [(max n 0, dn)], now := now } } (.int .i64 0) (.returned (.int .i64 0)) (w.setChan h.C 16 ((qV q).push (.agg #[.int .i64 m, .bool dn])) false (s + 1) r false) := by
      intro m hm
      rw [qV_push, hm]
      refine ⟨rfl, ⟨⟨a, b, k1.chan (s + 1) r, k2⟩, fun x hx => ?_, k4⟩, Off.chan hc hB.c ..⟩
      rcases List.mem_append.1 hx with hx | hx
      · exact k3 x hx
      · rw [List.mem_singleton] at hx
        rw [hx]
        exact ⟨by simp only; omega, by simp only; omega⟩
    replace fin := Lib.hid fin
    have hq' : q.length < 16 := hq
    clear hq
    go_enter Tryz.func11, Tryz.ntmps11
    go_upto_region 3 with fail
    refine wp_region_sel_send rfl rfl (zero_fault _) rfl rfl hc (by rw [qV_size]; exact hq') ?_
    go_wp2_with fail
    all_goals (go_ret; exact fin _ (by omega))
  · simp only [hq, if_false]
    have hq' : 16 ≤ q.length := Nat.le_of_not_lt hq
    clear hq
    go_enter Tryz.func11, Tryz.ntmps11
    go_upto_region 3 with fail
    refine wp_region_sel_full rfl rfl (zero_fault _) rfl rfl hc (by rw [qV_size]; exact hq') ?_
    go_wp2_with fail
    all_goals (go_ret; exact ⟨rfl, ⟨⟨a, b, k1, k2⟩, k3, k4⟩, Off.refl _ _ _⟩)
end Go.Proofs.YtnoebccoaeiakaaGreatDoor

namespace Go.Proofs.YtnoebccoaeiakaaGreatDoor
open Go.RowKit Go.Bar Go.Bar.Wal Go.Conc
attribute [local go_sem] Oper.semAt_some

def chLen (w : World) (c : Nat) : Nat := match w.heap[c]? with
  | some (.chan _ buf _ _ _ _) => buf.size
  | _ => 0
set_option maxHeartbeats 4000000 in
set_option maxRecDepth 10000 in
theorem clear_any (w : World) (h : Hd) (d : Ds) (B : Nat) (k : DkAt w h d) (hB : h.Hi B) :
    Calls Tryz.prog 45 #[.pointer (some ⟨h.U, 0, none⟩)] w (DkT DT0 B w h { d with fz := Fz.none_ } (.tuple #[])) := by
  obtain ⟨fs, room, used, ⟨q, now⟩⟩ := d
  obtain ⟨⟨a, b, k1, k2⟩, k3, k4⟩ := k
  simp only at k1 k2 k3 k4
  have c3 := k1.fu.cell (i := 3) rfl
  have f3 := k1.fu.free 3
  have k5 := k1.setU (arm' := false) 3 (.bool false) rfl
  have o5 := offU k1 hB 3 (.bool false)
  have k5 := Lib.hid k5
  have o5 := Lib.hid o5
  go_enter Tryz.func45, Tryz.ntmps45
  go_wp2_with fail
  go_loopw [5] (fun _ wr => Hid (∃ q, DkC wr h fs room used q a b false) ∧ Hid (Off DT0 B w wr)) (fun _ wr => chLen wr h.C)
  case atStart => exact ⟨Lib.hid ⟨_, k5⟩, o5⟩
  case round =>
    obtain ⟨hd, ho⟩ := hrel
    obtain ⟨q2, kq⟩ := hd
    obtain ⟨s, r, hc⟩ := kq.ch
    have c0 := kq.fu.cell (i := 0) rfl
    cases q2 with
    | nil =>
      have hc : wr.heap[h.C]? = some (.chan 16 #[] false s r false) := hc
      go_upto_region 2 with fail
      refine wp_region_sel_none rfl rfl (zero_fault _) rfl hc ?_
      go_wp2_with fail
      (try simp only [Exit.inBlock, Exit.then]); refine bodyPost_ret (results_none rfl _ _ _) rfl ?_
      exact ⟨rfl, ⟨⟨a, b, kq, fun x hx => (by cases hx)⟩, fun x hx => (by cases hx), fun x hx => (by cases hx)⟩, ho⟩
    | cons x q2 =>
      obtain ⟨a0, b0⟩ := x
      have kn := kq.chan (q' := q2) s (r + 1)
      have on : Off DT0 B wr (wr.setChan h.C 16 (qV q2) false s (r + 1) false) := Off.chan hc hB.c ..
      go_upto_region 2 with fail
      refine wp_region_sel_recv rfl rfl ⟨_, zero_fault _⟩ rfl hc (by rw [qV_size]; exact Nat.succ_pos _) ?_
      rw [qV_head, qV_tail]
      go_wp2_with fail
      go_roundw
      case rel => exact ⟨Lib.hid ⟨q2, kn⟩, Off.trans ho on⟩
      case measure =>
        unfold chLen
        rw [heap_setChan _ _ _ _ _ _ _ _ kq.ltC, hc]
        simp only [qV_size, List.length_cons]
        omega
theorem mk16 (w : World) : (Instr.makeChan 113 (.int .i64 16)).run Tryz.prog w = .ok (.chan (some w.heap.size)) (w.alloc (.chan 16 #[] false 0 0 false)) := by
  have hi : ∃ i, Tryz.prog.info? 115 = some i ∧ i.bytes = 16 := by
    have h : (Tryz.prog.info? 115).map (·.bytes) = some 16 := by kernel_rfl
    obtain ⟨i, hi, hb⟩ := Option.map_eq_some_iff.1 h
    exact ⟨i, hi, hb⟩
  obtain ⟨i, hi, hb⟩ := hi
  simpa using run_makeChan (P := Tryz.prog) (w := w) Tryz.underlying113 hi .i64 16 (by omega) (by rw [hb]; omega)
theorem newFuse_any (w : World) : Calls Tryz.prog 24 #[] w fun e w' => e = .returned (.pointer (some ⟨w.heap.size + 1, 0, none⟩)) ∧
    (w.alloc (.chan 16 #[] false 0 0 false)).alloc (.cells #[.chan (some w.heap.size), .int .i64 0, .bool false, .bool false] 117) = w' := by
  have hmc := mk16 w
  go_enter Tryz.func24, Tryz.ntmps24
  go_wp2_with fail
  go_ret
  exact ⟨rfl, rfl⟩
theorem blk_at {w : World} {k : Nat} {cur : Array Value} {T : TypeId} (hk : k = w.heap.size) : Blk (w.alloc (.cells cur T)) k T cur := by rw [hk]; exact Blk.new w cur T
theorem new_any (w : World) (room : Int) : Calls Tryz.prog 5 #[.int .i64 room] w fun e w' => ∃ h : Hd, e = .returned (.pointer (some ⟨h.D, 0, none⟩)) ∧ DkAt w' h (Ds.new room) ∧ h.Hi w.heap.size ∧ Below w.heap.size w w' := by
  have fin : ∀ m : Int, m = max room 0 → ∃ h : Hd, Ending.returned (Value.pointer (some ⟨w.heap.size + 3, 0, none⟩)) = .returned (.pointer (some ⟨h.D, 0, none⟩)) ∧ DkAt ((((w.alloc (.chan 16 #[] false 0 0 false)).alloc (.cells #[.chan (some w.heap.size), .int .i64 0, .bool false, .bool false] 117)).alloc (.map #[] 0)).alloc (.cells #[.pointer (some ⟨w.heap.size + 1, 0, none⟩), .map (some (w.heap.size + 2)), .int .i64 m, .int .i64 0] 50)) h (Ds.new room) ∧ h.Hi w.heap.size ∧ Below w.heap.size w ((((w.alloc (.chan 16 #[] false 0 0 false)).alloc (.cells #[.chan (some w.heap.size), .int .i64 0, .bool false, .bool false] 117)).alloc (.map #[] 0)).alloc (.cells #[.pointer (some ⟨w.heap.size + 1, 0, none⟩), .map (some (w.heap.size + 2)), .int .i64 m, .int .i64 0] 50)) := by
    intro m hm
    subst hm
    refine ⟨⟨w.heap.size + 3, w.heap.size + 1, w.heap.size, w.heap.size + 2⟩, rfl, ⟨⟨0, false, ⟨?_, ?_, ⟨0, 0, ?_⟩, ?_⟩, fun x hx => (by cases hx)⟩, fun x hx => (by cases hx), fun x hx => (by cases hx)⟩, ⟨by simp only; omega, by simp only; omega, Nat.le_refl _, by simp only; omega, Nat.le_refl _⟩, ?_⟩
    · exact blk_at (by simp)
    · exact ((blk_at (by simp)).alloc _).alloc _
    · have h1 := heap_alloc_new w (.chan 16 #[] false 0 0 false)
      have l1 : w.heap.size < (w.alloc (.chan 16 #[] false 0 0 false)).heap.size := by simp
      exact ((Below.heap_alloc _ _ _ (by simp; omega)).trans ((Below.heap_alloc _ _ _ (by simp; omega)).trans ((Below.heap_alloc _ _ _ l1).trans h1)))
    · have h1 := FmAt.made ((w.alloc (.chan 16 #[] false 0 0 false)).alloc (.cells #[.chan (some w.heap.size), .int .i64 0, .bool false, .bool false] 117)) Tryz.prog 9
      have e : ((w.alloc (.chan 16 #[] false 0 0 false)).alloc (.cells #[.chan (some w.heap.size), .int .i64 0, .bool false, .bool false] 117)).heap.size = w.heap.size + 2 := by simp
      rw [e] at h1
      exact h1.below ((Below.refl _ _).alloc (Nat.le_refl _) _)
    · exact ((((Below.refl _ w).alloc (Nat.le_refl _) _).alloc (by simp) _).alloc (by simp; omega) _).alloc (by simp; omega) _
  replace fin := Lib.hid fin
  have hmm := @run_makeMap Tryz.prog
  go_enter Tryz.func5, Tryz.ntmps5
  go_wp2_with (go_at_call 24; refine (newFuse_any _).mono ?_; rintro e w' ⟨rfl, rfl⟩)
  all_goals (go_ret; exact fin _ (by omega))
end Go.Proofs.YtnoebccoaeiakaaGreatDoor

namespace Go.Proofs.YtnoebccoaeiakaaGreatDoor
open Go.RowKit Go.Bar Go.Bar.Wal Go.Conc
attribute [local go_sem] Oper.semAt_some

set_option maxHeartbeats 4000000 in
set_option maxRecDepth 10000 in
theorem do_any (gf : Nat) (lb : Array Value) (eg : ∀ args w, (callFunc gf args).run Tryz.prog w = .ok (.enter gf args) w) (w : World) (h : Hd) (d : Ds) (B : Nat) (k : DkAt w h d) (hB : h.Hi B) (act : Ds → Ds)
    (hact : ∀ w1, DkAt w1 h { d with fz := d.fz.next.2 } → Off DT0 B w w1 → Calls Tryz.prog gf lb w1 (DkTo B w1 h (act { d with fz := d.fz.next.2 }) (.int .i64 0))) :
    Calls Tryz.prog 58 #[.pointer (some ⟨h.U, 0, none⟩), .func (.func gf) #[] lb] w (DkTo B w h (d.do_ act).2 (.int .i64 ((d.do_ act).1 : Nat))) := by
  unfold Ds.do_
  simp only
  have hw := next_works d.fz
  obtain ⟨wk, hwk⟩ : ∃ wk, wk = d.fz.next.1.1 := ⟨_, rfl⟩
  obtain ⟨dn, hdn⟩ : ∃ dn, dn = d.fz.next.1.2 := ⟨_, rfl⟩
  have ht := try_any w h d B k hB
  rw [← hwk, ← hdn] at ht
  rw [← hwk, ← hdn] at hw ⊢
  clear hwk hdn
  obtain ⟨d1, hd1⟩ : ∃ d1, d1 = { d with fz := d.fz.next.2 } := ⟨_, rfl⟩
  rw [← hd1] at ht hact ⊢
  clear hd1
  cases wk with
  | true =>
    obtain rfl := hw rfl
    simp only [if_true]
    go_enter Tryz.func58, Tryz.ntmps58
    go_wp2_with (first
      | (go_at_call 99; refine ht.mono ?_; rintro e w1 ⟨rfl, k1, o1⟩)
      | (refine (hact _ k1 o1).mono ?_; rintro e w2 ⟨rfl, k2, o2⟩))
    go_ret
    exact ⟨rfl, k2, (o1.wide dt0).trans o2⟩
  | false =>
    clear hw
    cases dn with
    | true =>
      simp only [if_true, if_false, Bool.false_eq_true]
      go_enter Tryz.func58, Tryz.ntmps58
      go_wp2_with (first
        | (go_at_call 99; refine ht.mono ?_; rintro e w1 ⟨rfl, k1, o1⟩)
        | (refine (hact _ k1 o1).mono ?_; rintro e w2 ⟨rfl, k2, o2⟩))
      go_ret
      exact ⟨rfl, k2, (o1.wide dt0).trans o2⟩
    | false =>
      clear hact
      simp only [if_false, Bool.false_eq_true]
      go_enter Tryz.func58, Tryz.ntmps58
      go_wp2_with (go_at_call 99; refine ht.mono ?_; rintro e w1 ⟨rfl, k1, o1⟩)
      go_ret
      exact ⟨rfl, k1, o1.wide dt0⟩
end Go.Proofs.YtnoebccoaeiakaaGreatDoor

namespace Go.Bar.Wal
open Go.RowKit Go.Bar Go.Proofs
section
variable {P : Program} {t k e : TypeId} {w : World} {b : Nat} {fs : Fs}
theorem FmAt.upd (h : FmAt P k w b fs) (T : FmTy P t k e) (hs : Srt fs) (hn : fs.length < maxLen) (l : List UInt8) (hl : l.length ≤ maxLen) (f : Fi) :
    ∃ w', (Instr.mapUpdate t (.map (some b)) (.string (bs l)) (fiV f)).run P w = .ok () w' ∧ FmAt P k w' b (fput fs l f) ∧ w.grownBy w' (some b) := by
  obtain ⟨w', hrun, r1, r2⟩ := World.ownsMap.update h (Maps.string_keyed T.key) T.map hn (key_of T.key l hl) (fileR_of f)
  refine ⟨w', hrun, ?_, r2⟩
  rw [dOf_put hs] at r1
  exact owns_size r1 (by unfold dOf; rw [Maps.size_eq, List.length_map]; exact Nat.le_refl _)
theorem FmAt.drop (h : FmAt P k w b fs) (T : FmTy P t k e) (l : List UInt8) (hl : l.length ≤ maxLen) (ty : TypeId) :
    ∃ w', (Builtin.delete_ #[t, k] ty #[.map (some b), .string (bs l)]).run P w = .ok (.tuple #[]) w' ∧ FmAt P k w' b (fdel fs l) ∧ w.grownBy w' (some b) := by
  obtain ⟨w', hrun, r1, r2⟩ := World.ownsMap.drop h (Maps.string_keyed T.key) T.map (key_of T.key l hl) ty
  refine ⟨w', hrun, ?_, r2.grown⟩
  rw [dOf_del] at r1
  exact owns_size r1 (by unfold dOf; rw [Maps.size_eq, List.length_map]; exact Nat.le_refl _)
end
theorem Off.blk {Ts : TypeId → Prop} {B : Nat} {w w' : World} {M : Nat} {T : TypeId} {cur : Array Value} (o : Off Ts B w w') (hb : Blk w M T cur) (hT : ¬ Ts T) : Blk w' M T cur := o.kc.blk hb hT
theorem nd_ptr : ¬ DTs 27 := fun c => by rcases c with c | c | c <;> exact absurd c (by decide)
theorem nd_str : ¬ DTs 9 := fun c => by rcases c with c | c | c <;> exact absurd c (by decide)
theorem nd_int : ¬ DTs 3 := fun c => by rcases c with c | c | c <;> exact absurd c (by decide)
theorem n0_ptr : ¬ DT0 27 := fun c => nd_ptr (dt0 _ c)
theorem n0_str : ¬ DT0 9 := fun c => nd_str (dt0 _ c)
theorem n0_int : ¬ DT0 3 := fun c => nd_int (dt0 _ c)
theorem n0_file : ¬ DT0 132 := fun c => by rcases c with c | c <;> exact absurd c (by decide)
theorem ndk_file : NDk 132 := ⟨by decide, by decide⟩
theorem blk_grown {w w' : World} {M b : Nat} {T : TypeId} {cur : Array Value} {fs : Fs} (hb : Blk w M T cur) (hm : FmAt Go.Proofs.Tryz.prog 9 w b fs) (hg : w.grownBy w' (some b)) : Blk w' M T cur := by
  refine (hg.block M hb.lt fun e => ?_).trans hb
  injection e with e
  obtain ⟨es, cl, h1⟩ := hm.is_map
  unfold Blk at hb
  subst e
  rw [h1] at hb
  cases hb
theorem DkC.off_map {w w' : World} {h : Hd} {fs : Fs} {room used : Int} {q : List (Int × Bool)} {a : Int} {b arm : Bool} {B : Nat} (k : DkC w h fs room used q a b arm) (hB : h.Hi B) (hg : w.grownBy w' (some h.M)) : Off DTs B w w' := Off.map k.mp.is_map hg hB.m (Nat.le_trans hB.d (Nat.le_of_lt k.dk.lt)) hB.m2
end Go.Bar.Wal
namespace Go.Proofs.YtnoebccoaeiakaaGreatDoor
open Go.RowKit Go.Bar Go.Bar.Wal Go.Conc
attribute [local go_sem] Oper.semAt_some

theorem fm_ty : FmTy Tryz.prog 48 9 132 := ⟨Tryz.underlying48, Tryz.underlying9, fun w => by
  go_simp
  rfl⟩
set_option maxHeartbeats 4000000 in
set_option maxRecDepth 10000 in
theorem appendF_any (w : World) (h : Hd) (d : Ds) (B : Nat) (k : DkAt w h d) (hB : h.Hi B) (n s : List UInt8) (b3 b4 b5 : Nat) (B3 : Blk w b3 27 #[.pointer (some ⟨h.D, 0, none⟩)]) (B4 : Blk w b4 9 #[.string (bs n)]) (B5 : Blk w b5 9 #[.string (bs s)])
    (hs : Srt d.fs) (hn : d.fs.length < 1000000000) (hl : n.length ≤ maxLen) (hf : ((fnd d.fs n).getD Fi.z).s.length + s.length ≤ 1000000000000) (hu0 : 0 ≤ d.used) (hu : d.used ≤ 1000000000000) :
    Calls Tryz.prog 65 #[.pointer (some ⟨b3, 0, none⟩), .pointer (some ⟨b4, 0, none⟩), .pointer (some ⟨b5, 0, none⟩)] w
      (DkTo B w h { d with fs := fput d.fs n ⟨((fnd d.fs n).getD Fi.z).s ++ s, ((fnd d.fs n).getD Fi.z).sure⟩, used := d.used + s.length } (.int .i64 0)) := by
  obtain ⟨⟨a, b, k1, k2'⟩, k3, k4⟩ := k
  obtain ⟨f, hff⟩ : ∃ f, f = (fnd d.fs n).getD Fi.z := ⟨_, rfl⟩
  have hlk0 := k1.mp.below (Below.refl _ w).drew
  have hlk1 := hlk0.look fm_ty n hl
  have hlk2 : ∀ o, _ := fun o => ((k1.mp.below ((Below.refl _ _).alloc (Nat.le_refl _) o)).below (Below.refl _ (w.alloc o)).drew).look fm_ty n hl
  rw [← hff] at hf hlk1 ⊢
  simp only [← hff] at hlk2
  clear hff
  obtain ⟨fb, fn⟩ := f
  simp only [fiV] at hlk1 hlk2
  have c1 := k1.dk.cell (i := 1) rfl
  have c3 := k1.dk.cell (i := 3) rfl
  have f3 := k1.dk.free 3
  have x3 := B3.cell (i := 0) rfl
  have x4 := B4.cell (i := 0) rfl
  have x5 := B5.cell (i := 0) rfl
  have y1 := fun o => (k1.dk.alloc o).cell (i := 1) rfl
  have y3 := fun o => (B3.alloc o).cell (i := 0) rfl
  have y4 := fun o => (B4.alloc o).cell (i := 0) rfl
  go_enter Tryz.func65, Tryz.ntmps65
  go_upto_region 1 with fail
  go_region
  clear hlk0 hlk1 hlk2 c1 c3 f3 x3 x4 x5 y1 y3 y4
  obtain ⟨w1, hw1⟩ : ∃ w1, w1 = (w.alloc (.cells #[.string (bs fb), .int .i64 (fn : Nat)] 132)).drew := ⟨_, rfl⟩
  rw [← hw1]
  have hb1 : Below w.heap.size w w1 := by rw [hw1]; exact ((Below.refl _ w).alloc (Nat.le_refl _) _).drew
  have F1 : Blk w1 w.heap.size 132 #[.string (bs fb), .int .i64 (fn : Nat)] := by rw [hw1]; exact (Blk.new w _ _).drew
  clear hw1
  have hFB : B ≤ w.heap.size := hiW k1 hB
  replace k1 := k1.below hb1
  replace B3 := B3.below hb1
  replace B4 := B4.below hb1
  replace B5 := B5.below hb1
  have hcat : ¬ 9223372036854775807 < fb.length + s.length := by simp only at hf; omega
  have o1 : Off DTs B w w1 := Off.of_below hb1 hFB
  have c5 := B5.cell (i := 0) rfl
  have g0 := F1.cell (i := 0) rfl
  have gf := F1.free 0
  go_upto_region 3 with fail
  have k2 := k1.other F1 ndk_file 0 (.string (bs (fb ++ s)))
  have o2 : Off DTs B w1 _ := Off.set F1 (.inr (.inr rfl)) hFB 0 (.string (bs (fb ++ s)))
  have F2 := F1.set 0 (.string (bs (fb ++ s)))
  obtain ⟨w2, hw2⟩ : ∃ w2, w2 = w1.setCell ⟨w.heap.size, 0, none⟩ (.string (bs (fb ++ s))) := ⟨_, rfl⟩
  rw [← hw2] at k2 o2 F2 ⊢
  clear hw2
  have F2 : Blk w2 w.heap.size 132 #[.string (bs (fb ++ s)), .int .i64 (fn : Nat)] := F2
  replace B3 := o2.blk B3 nd_ptr
  replace B4 := o2.blk B4 nd_str
  replace B5 := o2.blk B5 nd_str
  replace o2 := o1.trans o2
  clear o1 k1 F1 c5 g0 gf
  have x3 := B3.cell (i := 0) rfl
  have x4 := B4.cell (i := 0) rfl
  have c1 := k2.dk.cell (i := 1) rfl
  obtain ⟨g0, g1⟩ := Blk.c2 F2
  have kd := k2.below (Below.refl _ w2).drew
  obtain ⟨w3, hup, hm3, hg3⟩ := kd.mp.upd fm_ty hs (by unfold maxLen; omega) n hl ⟨fb ++ s, fn⟩
  simp only [fiV] at hup
  have k3' := kd.files hm3 hg3
  have o3 := kd.off_map hB hg3
  replace o3 := o2.trans ((Off.of_below (Below.refl _ w2).drew (hiW k2 hB)).trans o3)
  have e3 := B3.drew
  have e5 := B5.drew
  replace e3 := blk_grown e3 kd.mp hg3
  replace e5 := blk_grown e5 kd.mp hg3
  clear hm3 hg3
  go_region
  clear x3 x4 c1 g0 g1 hup kd k2 o2 F2
  have x3 := e3.cell (i := 0) rfl
  have x5 := e5.cell (i := 0) rfl
  have c3 := k3'.dk.cell (i := 3) rfl
  have f3 := k3'.dk.free 3
  have k4' := k3'.setD (d.used + s.length)
  have o4 := o3.trans (offD k3' hB 3 (.int .i64 (d.used + s.length)))
  have hi : s.length ≤ 1000000000000 := by simp only at hf; omega
  go_upto_region 4 with fail
  go_region
  go_wp2_with fail
  go_ret
  exact ⟨rfl, ⟨⟨a, b, k4'.below (Below.refl _ _).drew, k2'⟩, k3, k4⟩, o4.trans (Off.of_below (Below.refl _ _).drew (hiW k4' hB))⟩
end Go.Proofs.YtnoebccoaeiakaaGreatDoor

namespace Go.Proofs.YtnoebccoaeiakaaGreatDoor
open Go.RowKit Go.Bar Go.Bar.Wal Go.Conc
attribute [local go_sem] Oper.semAt_some

set_option maxHeartbeats 4000000 in
theorem free_any (w : World) (h : Hd) (d : Ds) (k : DkAt w h d) (hr : d.room ≤ 1000000000000) (hr0 : 0 ≤ d.room) (hu0 : 0 ≤ d.used) (hu : d.used ≤ d.room) : Calls Tryz.prog 38 #[.pointer (some ⟨h.D, 0, none⟩)] w (Quiet w (.int .i64 d.free)) := by
  obtain ⟨⟨a, b, k1, k2⟩, k3, k4⟩ := k
  have c2 := k1.dk.cell (i := 2) rfl
  have c3 := k1.dk.cell (i := 3) rfl
  unfold Ds.free
  go_enter Tryz.func38, Tryz.ntmps38
  go_upto_region 1 with fail
  go_quiet (fail)
  go_wp2_with fail
  go_ret
  exact ⟨rfl, _, rfl⟩
set_option maxHeartbeats 4000000 in
set_option maxRecDepth 10000 in
theorem dAppend_any (w : World) (h : Hd) (d : Ds) (B c : Nat) (k : DkAt w h d) (hB : h.Hi B) (ha : Acc c d) (hc : c ≤ 100000000) (hr : d.room ≤ 100000000000) (n s : List UInt8) (hn : n.length ≤ maxLen) (hs : s.length ≤ maxLen) :
    Calls Tryz.prog 39 #[.pointer (some ⟨h.D, 0, none⟩), .string (bs n), .string (bs s)] w (DkTo B w h (d.append n s).2 (.int .i64 ((d.append n s).1 : Nat))) := by
  have hu := ha.use
  have hru := ha.room
  have hB0 : B ≤ w.heap.size := by obtain ⟨⟨a, b, k1, k2⟩, k3, k4⟩ := k; exact hiW k1 hB
  have hW := ((((Below.refl _ w).alloc (Nat.le_refl _) (.cells #[.pointer (some ⟨h.D, 0, none⟩)] 27)).alloc (by simp) (.cells #[.string (bs n)] 9)).alloc (by simp; omega) (.cells #[.string (bs s)] 9))
  obtain ⟨W, hWe⟩ : ∃ W, W = ((w.alloc (.cells #[.pointer (some ⟨h.D, 0, none⟩)] 27)).alloc (.cells #[.string (bs n)] 9)).alloc (.cells #[.string (bs s)] 9) := ⟨_, rfl⟩
  rw [← hWe] at hW
  have hk := k.below hW
  have hO : Off DTs B w W := Off.of_below hW hB0
  have b3 : Blk W w.heap.size 27 #[.pointer (some ⟨h.D, 0, none⟩)] := by rw [hWe]; exact ((blk_at rfl).alloc _).alloc _
  have b4 : Blk W (w.heap.size + 1) 9 #[.string (bs n)] := by rw [hWe]; exact (blk_at (by simp)).alloc _
  have b5 : Blk W (w.heap.size + 2) 9 #[.string (bs s)] := by rw [hWe]; exact blk_at (by simp)
  replace hWe := Lib.hid hWe
  have x3 := b3.cell (i := 0) rfl
  have x4 := b4.cell (i := 0) rfl
  have x5 := b5.cell (i := 0) rfl
  obtain ⟨r, hre⟩ : ∃ r, r = d.append n s := ⟨_, rfl⟩
  rw [← hre]
  replace hre := Lib.hid hre
  go_enter Tryz.func39, Tryz.ntmps39
  go_upto_region 1 with fail
  rw [← hWe.out]
  clear hWe
  have hn2 : n.length ≤ 9223372036854775807 := hn
  have hs2 : s.length ≤ 9223372036854775807 := hs
  by_cases hbad : badName n
  · have e : r = (1, d) := by have := hre.out; unfold Ds.append at this; rwa [if_pos hbad] at this
    replace e := Lib.hid e
    unfold badName at hbad
    rcases hbad with rfl | hbad
    · go_wp2_with fail
      go_ret
      rw [e.out]
      exact ⟨rfl, hk, hO⟩
    · have h1 : n.isEmpty = false := by cases n with | nil => simp at hbad | cons x l => rfl
      have h2 : decide (40 < (n.length : Int)) = true := decide_eq_true (by omega)
      go_wp2_with fail
      go_ret
      rw [e.out]
      exact ⟨rfl, hk, hO⟩
  · have h1 : n.isEmpty = false := by cases n with | nil => exact absurd (.inl rfl) hbad | cons x l => rfl
    have h2 : decide (40 < (n.length : Int)) = false := decide_eq_false (fun e => hbad (.inr (by omega)))
    have HF := fun nq => free_any (W.drewN nq) h d (hk.below (below_draws W nq)) (by omega) (by omega) (by omega) hru
    replace HF := Lib.hid HF
    by_cases hfull : d.free < s.length
    · have e : r = (7, d) := by have := hre.out; unfold Ds.append at this; rwa [if_neg hbad, if_pos hfull] at this
      replace e := Lib.hid e
      clear hbad
      go_upto_region 3 with fail
      go_quiet (first | (go_at_call 38; refine Calls.quiet_of (HF.out _)))
      go_wp2_with fail
      go_ret
      rw [e.out]
      exact ⟨rfl, hk.below (below_draws _ _), hO.trans (Off.of_below (below_draws _ _) (Nat.le_trans hB0 hW.size))⟩
    · have e : r = d.do_ (fun d => { d with fs := fput d.fs n ⟨((fnd d.fs n).getD Fi.z).s ++ s, ((fnd d.fs n).getD Fi.z).sure⟩, used := d.used + s.length }) := by have := hre.out; unfold Ds.append at this; rwa [if_neg hbad, if_neg hfull] at this
      replace e := Lib.hid e
      clear hbad
      go_upto_region 3 with fail
      go_quiet (first | (go_at_call 38; refine Calls.quiet_of (HF.out _)))
      replace hk := hk.below (below_draws W nq)
      replace hO := hO.trans (Off.of_below (below_draws W nq) (Nat.le_trans hB0 hW.size))
      replace b3 := b3.drewN nq
      replace b4 := b4.drewN nq
      replace b5 := b5.drewN nq
      clear x3 x4 x5
      have x3 := b3.cell (i := 0) rfl
      have x0 : (W.drewN nq).cell? ⟨h.D, 0, none⟩ = some (.pointer (some ⟨h.U, 0, none⟩)) := by obtain ⟨⟨a, b, k1, k2⟩, k3, k4⟩ := hk; exact k1.dk.cell (i := 0) rfl
      have hf1 : (d.used : Int) + s.length ≤ d.room := by unfold Ds.free at hfull; omega
      have hfl := len_le_tot d.fs n
      unfold lenAt at hfl
      have hdo := do_any 65 #[.pointer (some ⟨w.heap.size, 0, none⟩), .pointer (some ⟨w.heap.size + 1, 0, none⟩), .pointer (some ⟨w.heap.size + 1 + 1, 0, none⟩)] (enters_of Tryz.func65 (by kernel_rfl) rfl) _ h d B hk hB
        (fun d => { d with fs := fput d.fs n ⟨((fnd d.fs n).getD Fi.z).s ++ s, ((fnd d.fs n).getD Fi.z).sure⟩, used := d.used + s.length })
        (fun w1 hk1 ho1 => appendF_any w1 h _ B hk1 hB n s _ _ _ (ho1.blk b3 n0_ptr) (ho1.blk b4 n0_str) (ho1.blk b5 n0_str) ha.srt (by have := ha.num; show d.fs.length < _; omega) hn (by show ((fnd d.fs n).getD Fi.z).s.length + s.length ≤ 1000000000000; omega) (by show 0 ≤ d.used; omega) (by show d.used ≤ _; omega))
      rw [← e.out] at hdo
      replace hdo := Lib.hid hdo
      go_wp2_with (go_at_call 58; refine hdo.out.mono ?_; rintro e1 w1 ⟨rfl, hk1, ho1⟩)
      go_ret
      exact ⟨rfl, hk1, hO.trans ho1⟩
end Go.Proofs.YtnoebccoaeiakaaGreatDoor

namespace Go.Proofs.YtnoebccoaeiakaaGreatDoor
open Go.RowKit Go.Bar Go.Bar.Wal Go.Conc
attribute [local go_sem] Oper.semAt_some

structure Lk (w : World) (h : Hd) (d : Ds) (n : Nm) (f : Fi) (ok : Bool) : Prop where
  a : (Instr.lookup 48 (.map (some h.M)) (.string (bs n)) true).run Tryz.prog w.drew = .ok (.tuple #[fiV f, .bool ok]) w.drew
  b : ∀ o, (Instr.lookup 48 (.map (some h.M)) (.string (bs n)) true).run Tryz.prog (w.alloc o).drew = .ok (.tuple #[fiV f, .bool ok]) (w.alloc o).drew
theorem lk_of {w : World} {h : Hd} {d : Ds} {n : Nm} (k : DkAt w h d) (hn : n.length ≤ maxLen) : Lk w h d n ((fnd d.fs n).getD Fi.z) (fnd d.fs n).isSome := by
  obtain ⟨⟨a, b, k1, _⟩, _, _⟩ := k
  exact ⟨(k1.mp.below (Below.refl _ w).drew).look_ok fm_ty n hn, fun o => ((k1.mp.below ((Below.refl _ _).alloc (Nat.le_refl _) o)).below (Below.refl _ (w.alloc o)).drew).look_ok fm_ty n hn⟩
theorem d_cells {w : World} {h : Hd} {d : Ds} (k : DkAt w h d) : w.cell? ⟨h.D, 0, none⟩ = some (.pointer (some ⟨h.U, 0, none⟩)) ∧ w.cell? ⟨h.D, 1, none⟩ = some (.map (some h.M)) := by
  obtain ⟨⟨a, b, k1, _⟩, _, _⟩ := k
  exact ⟨k1.dk.cell (i := 0) rfl, k1.dk.cell (i := 1) rfl⟩
theorem hiA {w : World} {h : Hd} {d : Ds} {B : Nat} (k : DkAt w h d) (hB : h.Hi B) : B ≤ w.heap.size := by
  obtain ⟨⟨a, b, k1, _⟩, _, _⟩ := k
  exact hiW k1 hB
set_option maxHeartbeats 4000000 in
set_option maxRecDepth 10000 in
theorem syncF_any (w : World) (h : Hd) (d : Ds) (B : Nat) (k : DkAt w h d) (hB : h.Hi B) (n : List UInt8) (f : Fi) (b0 b1 b2 : Nat) (hb0 : B ≤ b0) (B0 : Blk w b0 132 #[.string (bs f.s), .int .i64 (f.sure : Nat)]) (B1 : Blk w b1 27 #[.pointer (some ⟨h.D, 0, none⟩)]) (B2 : Blk w b2 9 #[.string (bs n)])
    (hs : Srt d.fs) (hn : d.fs.length < 1000000000) (hl : n.length ≤ maxLen) (hf : f.s.length ≤ 1000000000000) :
    Calls Tryz.prog 60 #[.pointer (some ⟨b0, 0, none⟩), .pointer (some ⟨b1, 0, none⟩), .pointer (some ⟨b2, 0, none⟩)] w
      (DkTo B w h { d with fs := fput d.fs n ⟨f.s, f.s.length⟩ } (.int .i64 0)) := by
  obtain ⟨⟨a, b, k1, k2'⟩, k3, k4⟩ := k
  obtain ⟨fb, fn⟩ := f
  simp only at B0 hf ⊢
  obtain ⟨g0, g1⟩ := Blk.c2 B0
  have g1f := B0.free 1
  have hf2 : fb.length ≤ 9223372036854775807 := by omega
  go_enter Tryz.func60, Tryz.ntmps60
  go_upto_region 2 with fail
  have k2 := k1.other B0 ndk_file 1 (.int .i64 (fb.length : Nat))
  have o2 : Off DTs B w _ := Off.set B0 (.inr (.inr rfl)) hb0 1 (.int .i64 (fb.length : Nat))
  have F2 := B0.set 1 (.int .i64 (fb.length : Nat))
  obtain ⟨w2, hw2⟩ : ∃ w2, w2 = w.setCell ⟨b0, 1, none⟩ (.int .i64 (fb.length : Nat)) := ⟨_, rfl⟩
  rw [← hw2] at k2 o2 F2 ⊢
  clear hw2
  have F2 : Blk w2 b0 132 #[.string (bs fb), .int .i64 (fb.length : Nat)] := F2
  replace B1 := o2.blk B1 nd_ptr
  replace B2 := o2.blk B2 nd_str
  clear k1 B0 g0 g1 g1f
  have x1 := B1.cell (i := 0) rfl
  have x2 := B2.cell (i := 0) rfl
  have c1 := k2.dk.cell (i := 1) rfl
  obtain ⟨g0, g1⟩ := Blk.c2 F2
  have kd := k2.below (Below.refl _ w2).drew
  obtain ⟨w3, hup, hm3, hg3⟩ := kd.mp.upd fm_ty hs (by unfold maxLen; omega) n hl ⟨fb, fb.length⟩
  simp only [fiV] at hup
  have k3' := kd.files hm3 hg3
  have o3 := kd.off_map hB hg3
  replace o3 := o2.trans ((Off.of_below (Below.refl _ w2).drew (hiW k2 hB)).trans o3)
  clear hm3 hg3
  go_region
  clear x1 x2 c1 g0 g1 hup kd
  go_wp2_with fail
  go_ret
  exact ⟨rfl, ⟨⟨a, b, k3', k2'⟩, k3, k4⟩, o3⟩
set_option maxHeartbeats 4000000 in
set_option maxRecDepth 10000 in
theorem dSync_any (w : World) (h : Hd) (d : Ds) (B c : Nat) (k : DkAt w h d) (hB : h.Hi B) (ha : Acc c d) (hc : c ≤ 100000000) (hr : d.room ≤ 100000000000) (n : List UInt8) (hn : n.length ≤ maxLen) :
    Calls Tryz.prog 29 #[.pointer (some ⟨h.D, 0, none⟩), .string (bs n)] w (DkTo B w h (d.sync n).2 (.int .i64 ((d.sync n).1 : Nat))) := by
  have hu := ha.use
  have hru := ha.room
  have hB0 : B ≤ w.heap.size := hiA k hB
  have hW := (((Below.refl _ w).alloc (Nat.le_refl _) (.cells #[.pointer (some ⟨h.D, 0, none⟩)] 27)).alloc (by simp) (.cells #[.string (bs n)] 9))
  obtain ⟨W, hWe⟩ : ∃ W, W = (w.alloc (.cells #[.pointer (some ⟨h.D, 0, none⟩)] 27)).alloc (.cells #[.string (bs n)] 9) := ⟨_, rfl⟩
  have hz : W.heap.size = w.heap.size + 2 := by rw [hWe]; simp
  rw [← hWe] at hW
  have hk := k.below hW
  have hO : Off DTs B w W := Off.of_below hW hB0
  have b2 : Blk W w.heap.size 27 #[.pointer (some ⟨h.D, 0, none⟩)] := by rw [hWe]; exact (blk_at rfl).alloc _
  have b3 : Blk W (w.heap.size + 1) 9 #[.string (bs n)] := by rw [hWe]; exact blk_at (by simp)
  replace hWe := Lib.hid hWe
  have x2 := b2.cell (i := 0) rfl
  have x3 := b3.cell (i := 0) rfl
  have y2 := fun o => (b2.alloc o).cell (i := 0) rfl
  have y3 := fun o => (b3.alloc o).cell (i := 0) rfl
  obtain ⟨x0, x1⟩ := d_cells hk
  have y0 := fun o => (d_cells (hk.below ((Below.refl _ W).alloc (Nat.le_refl _) o))).2
  obtain ⟨r, hre⟩ : ∃ r, r = d.sync n := ⟨_, rfl⟩
  rw [← hre]
  replace hre := Lib.hid hre
  have hlk := lk_of hk hn
  go_enter Tryz.func29, Tryz.ntmps29
  go_upto_region 1 with fail
  rw [← hWe.out]
  clear hWe
  cases hfn : fnd d.fs n with
  | none =>
    have e : r = (5, d) := by have := hre.out; unfold Ds.sync at this; rwa [hfn] at this
    replace e := Lib.hid e
    rw [hfn] at hlk
    obtain ⟨l1, l2⟩ := hlk
    simp only [Option.getD_none, Option.isSome_none, Fi.z, fiV] at l1 l2
    clear hfn
    go_region
    go_wp2_with fail
    go_ret
    rw [e.out]
    have hb : Below W.heap.size W (W.alloc (.cells #[.string (bs []), .int .i64 ((0 : Nat) : Int)] 132)).drew := ((Below.refl _ _).alloc (Nat.le_refl _) _).drew
    exact ⟨rfl, hk.below hb, hO.trans (Off.of_below hb (Nat.le_trans hB0 hW.size))⟩
  | some f =>
    have e : r = d.do_ (fun d => { d with fs := fput d.fs n ⟨f.s, f.s.length⟩ }) := by have := hre.out; unfold Ds.sync at this; rwa [hfn] at this
    replace e := Lib.hid e
    rw [hfn] at hlk
    obtain ⟨l1, l2⟩ := hlk
    simp only [Option.getD_some, Option.isSome_some, fiV] at l1 l2
    have hfl := len_le_tot d.fs n
    rw [len_some hfn] at hfl
    clear hfn
    go_region
    clear x0 x1 x2 x3 y0 y2 y3 l1 l2
    have hb1 : Below W.heap.size W (W.alloc (.cells #[.string (bs f.s), .int .i64 (f.sure : Nat)] 132)).drew := ((Below.refl _ _).alloc (Nat.le_refl _) _).drew
    have F1 : Blk (W.alloc (.cells #[.string (bs f.s), .int .i64 (f.sure : Nat)] 132)).drew W.heap.size 132 #[.string (bs f.s), .int .i64 (f.sure : Nat)] := (Blk.new W _ _).drew
    obtain ⟨w1, hw1⟩ : ∃ w1, w1 = (W.alloc (.cells #[.string (bs f.s), .int .i64 (f.sure : Nat)] 132)).drew := ⟨_, rfl⟩
    rw [← hw1] at hb1 F1 ⊢
    clear hw1
    replace hk := hk.below hb1
    replace hO := hO.trans (Off.of_below hb1 (Nat.le_trans hB0 hW.size))
    replace b2 := b2.below hb1
    replace b3 := b3.below hb1
    have x2 := b2.cell (i := 0) rfl
    obtain ⟨x0, x1⟩ := d_cells hk
    have hBW : B ≤ W.heap.size := Nat.le_trans hB0 hW.size
    rw [hz] at F1
    have hdo := do_any 60 #[.pointer (some ⟨w.heap.size + 2, 0, none⟩), .pointer (some ⟨w.heap.size, 0, none⟩), .pointer (some ⟨w.heap.size + 1, 0, none⟩)] (enters_of Tryz.func60 (by kernel_rfl) rfl) _ h d B hk hB
      (fun d => { d with fs := fput d.fs n ⟨f.s, f.s.length⟩ })
      (fun w2 hk2 ho2 => syncF_any w2 h _ B hk2 hB n f _ _ _ (by omega) (ho2.blk F1 n0_file) (ho2.blk b2 n0_ptr) (ho2.blk b3 n0_str) ha.srt (by have := ha.num; show d.fs.length < _; omega) hn (by omega))
    rw [← e.out] at hdo
    replace hdo := Lib.hid hdo
    go_wp2_with (go_at_call 58; refine hdo.out.mono ?_; rintro e1 w2 ⟨rfl, hk1, ho1⟩)
    go_ret
    exact ⟨rfl, hk1, hO.trans ho1⟩
end Go.Proofs.YtnoebccoaeiakaaGreatDoor

namespace Go.Proofs.YtnoebccoaeiakaaGreatDoor
open Go.RowKit Go.Bar Go.Bar.Wal Go.Conc
attribute [local go_sem] Oper.semAt_some

theorem blk_set {w : World} {M L : Nat} {T U : TypeId} {cur cur2 : Array Value} (hb : Blk w M T cur) (hm : Blk w L U cur2) (hne : T ≠ U) (i : Nat) (u : Value) : Blk (w.setCell ⟨L, i, none⟩ u) M T cur := hb.other (fun e => by
  subst e
  unfold Blk at hb hm
  rw [hb] at hm
  injection hm with hm
  injection hm with _ hm _
  exact hne hm) i u
set_option maxHeartbeats 4000000 in
set_option maxRecDepth 10000 in
theorem truncF_any (w : World) (h : Hd) (d : Ds) (B : Nat) (k : DkAt w h d) (hB : h.Hi B) (n : List UInt8) (f : Fi) (m : Nat) (b0 b1 b2 b3 : Nat) (B1 : Blk w b1 132 #[.string (bs f.s), .int .i64 (f.sure : Nat)]) (B0 : Blk w b0 27 #[.pointer (some ⟨h.D, 0, none⟩)]) (B2 : Blk w b2 3 #[.int .i64 (m : Nat)]) (B3 : Blk w b3 9 #[.string (bs n)])
    (hs : Srt d.fs) (hn : d.fs.length < 1000000000) (hl : n.length ≤ maxLen) (hm : m ≤ f.s.length) (hf : (f.s.length : Int) ≤ d.used) (hu : d.used ≤ 1000000000000) :
    Calls Tryz.prog 59 #[.pointer (some ⟨b0, 0, none⟩), .pointer (some ⟨b1, 0, none⟩), .pointer (some ⟨b2, 0, none⟩), .pointer (some ⟨b3, 0, none⟩)] w
      (DkTo B w h { d with fs := fput d.fs n ⟨f.s.take m, m⟩, used := d.used - (f.s.length - m : Nat) } (.int .i64 0)) := by
  obtain ⟨⟨a, b, k1, k2'⟩, k3, k4⟩ := k
  obtain ⟨fb, fn⟩ := f
  simp only at B1 hf hm ⊢
  have x0 := B0.cell (i := 0) rfl
  have x1 := B1.cell (i := 0) rfl
  have x2 := B2.cell (i := 0) rfl
  have c3 := k1.dk.cell (i := 3) rfl
  have f3 := k1.dk.free 3
  have hl2 : fb.length ≤ 1000000000000 := by omega
  have e1 : d.used - (fb.length - m : Nat) = d.used - ((fb.length : Int) - (m : Int)) := by omega
  have hut : (0 : Int) ≤ d.used := by omega
  rw [e1]
  go_enter Tryz.func59, Tryz.ntmps59
  go_upto_region 1 with fail
  go_region
  have kk := k1.setD (d.used - ((fb.length : Int) - (m : Int)))
  have oo := offD k1 hB 3 (.int .i64 (d.used - ((fb.length : Int) - (m : Int))))
  have hbD : Blk w h.D 50 _ := k1.dk
  have F1 := blk_set B1 hbD (by decide) 3 (.int .i64 (d.used - ((fb.length : Int) - (m : Int))))
  clear x0 x1 x2 c3 f3
  obtain ⟨w2, hw2⟩ : ∃ w2, w2 = w.setCell ⟨h.D, 3, none⟩ (.int .i64 (d.used - ((fb.length : Int) - (m : Int)))) := ⟨_, rfl⟩
  rw [← hw2] at kk oo F1 ⊢
  clear hw2
  have hdr : Below w2.heap.size w2 w2.drew := (Below.refl _ w2).drew
  replace oo := oo.trans (Off.of_below hdr (hiW kk hB))
  replace kk := kk.below hdr
  replace F1 := F1.below hdr
  obtain ⟨w4, hw4⟩ : ∃ w4, w4 = w2.drew := ⟨_, rfl⟩
  rw [← hw4] at kk oo F1 ⊢
  clear hw4 hdr
  replace B0 := oo.blk B0 nd_ptr
  replace B2 := oo.blk B2 nd_int
  replace B3 := oo.blk B3 nd_str
  have x0 := B0.cell (i := 0) rfl
  have x1 := F1.cell (i := 0) rfl
  have x2 := B2.cell (i := 0) rfl
  have x3 := B3.cell (i := 0) rfl
  have c1 := kk.dk.cell (i := 1) rfl
  have kd := kk.below (Below.refl _ w4).drew
  have hsl := fun w => slice_to (P := Tryz.prog) Tryz.underlying9 fb m hm w
  obtain ⟨w3, hup, hm3, hg3⟩ := kd.mp.upd fm_ty hs (by unfold maxLen; omega) n hl ⟨fb.take m, m⟩
  simp only [fiV] at hup
  have k3' := kd.files hm3 hg3
  have o3 := kd.off_map hB hg3
  replace o3 := oo.trans ((Off.of_below (Below.refl _ w4).drew (hiW kk hB)).trans o3)
  clear hm3 hg3
  go_upto_region 2 with fail
  go_region
  clear x0 x1 x2 x3 c1 hup kd hsl
  go_wp2_with fail
  go_ret
  exact ⟨rfl, ⟨⟨a, b, k3', k2'⟩, k3, k4⟩, o3⟩
end Go.Proofs.YtnoebccoaeiakaaGreatDoor

namespace Go.Proofs.YtnoebccoaeiakaaGreatDoor
open Go.RowKit Go.Bar Go.Bar.Wal Go.Conc
attribute [local go_sem] Oper.semAt_some

set_option maxHeartbeats 4000000 in
set_option maxRecDepth 10000 in
theorem dTrunc_any (w : World) (h : Hd) (d : Ds) (B c : Nat) (k : DkAt w h d) (hB : h.Hi B) (ha : Acc c d) (hc : c ≤ 100000000) (hr : d.room ≤ 100000000000) (n : List UInt8) (m : Nat) (hn : n.length ≤ maxLen) (hm : m ≤ maxLen) :
    Calls Tryz.prog 28 #[.pointer (some ⟨h.D, 0, none⟩), .string (bs n), .int .i64 (m : Nat)] w (DkTo B w h (d.truncate n m).2 (.int .i64 ((d.truncate n m).1 : Nat))) := by
  have hu := ha.use
  have hru := ha.room
  have hB0 : B ≤ w.heap.size := hiA k hB
  have hW := ((((Below.refl _ w).alloc (Nat.le_refl _) (.cells #[.pointer (some ⟨h.D, 0, none⟩)] 27)).alloc (by simp) (.cells #[.string (bs n)] 9)).alloc (by simp; omega) (.cells #[.int .i64 (m : Nat)] 3))
  obtain ⟨W, hWe⟩ : ∃ W, W = ((w.alloc (.cells #[.pointer (some ⟨h.D, 0, none⟩)] 27)).alloc (.cells #[.string (bs n)] 9)).alloc (.cells #[.int .i64 (m : Nat)] 3) := ⟨_, rfl⟩
  have hz : W.heap.size = w.heap.size + 3 := by rw [hWe]; simp
  rw [← hWe] at hW
  have hk := k.below hW
  have hO : Off DTs B w W := Off.of_below hW hB0
  have b2 : Blk W w.heap.size 27 #[.pointer (some ⟨h.D, 0, none⟩)] := by rw [hWe]; exact ((blk_at rfl).alloc _).alloc _
  have b3 : Blk W (w.heap.size + 1) 9 #[.string (bs n)] := by rw [hWe]; exact (blk_at (by simp)).alloc _
  have b4 : Blk W (w.heap.size + 2) 3 #[.int .i64 (m : Nat)] := by rw [hWe]; exact blk_at (by simp)
  replace hWe := Lib.hid hWe
  have x2 := b2.cell (i := 0) rfl
  have x3 := b3.cell (i := 0) rfl
  have y2 := fun o => (b2.alloc o).cell (i := 0) rfl
  have y3 := fun o => (b3.alloc o).cell (i := 0) rfl
  obtain ⟨x0, x1⟩ := d_cells hk
  have y0 := fun o => (d_cells (hk.below ((Below.refl _ W).alloc (Nat.le_refl _) o))).2
  obtain ⟨r, hre⟩ : ∃ r, r = d.truncate n m := ⟨_, rfl⟩
  rw [← hre]
  replace hre := Lib.hid hre
  have hlk := lk_of hk hn
  go_enter Tryz.func28, Tryz.ntmps28
  go_upto_region 1 with fail
  rw [← hWe.out]
  clear hWe
  cases hfn : fnd d.fs n with
  | none =>
    have e : r = (5, d) := by have := hre.out; unfold Ds.truncate at this; rw [hfn] at this; exact this
    replace e := Lib.hid e
    rw [hfn] at hlk
    obtain ⟨l1, l2⟩ := hlk
    simp only [Option.getD_none, Option.isSome_none, Fi.z, fiV] at l1 l2
    clear hfn
    go_region
    go_wp2_with fail
    go_ret
    rw [e.out]
    have hb : Below W.heap.size W (W.alloc (.cells #[.string (bs []), .int .i64 ((0 : Nat) : Int)] 132)).drew := ((Below.refl _ _).alloc (Nat.le_refl _) _).drew
    exact ⟨rfl, hk.below hb, hO.trans (Off.of_below hb (Nat.le_trans hB0 hW.size))⟩
  | some f =>
    rw [hfn] at hlk
    obtain ⟨l1, l2⟩ := hlk
    simp only [Option.getD_some, Option.isSome_some, fiV] at l1 l2
    have hfl := len_le_tot d.fs n
    rw [len_some hfn] at hfl
    have hr1 : f.s.length < m → r = (1, d) := fun hh => by have := hre.out; unfold Ds.truncate at this; rw [hfn] at this; simp only at this; rwa [if_pos hh] at this
    have hr2 : ¬ f.s.length < m → r = d.do_ (fun d => { d with fs := fput d.fs n ⟨f.s.take m, m⟩, used := d.used - (f.s.length - m : Nat) }) := fun hh => by have := hre.out; unfold Ds.truncate at this; rw [hfn] at this; simp only at this; rwa [if_neg hh] at this
    replace hr1 := Lib.hid hr1
    replace hr2 := Lib.hid hr2
    clear hfn
    go_region
    clear x0 x1 x2 x3 y0 y2 y3 l1 l2
    have hb1 : Below W.heap.size W (W.alloc (.cells #[.string (bs f.s), .int .i64 (f.sure : Nat)] 132)).drew := ((Below.refl _ _).alloc (Nat.le_refl _) _).drew
    have F1 : Blk (W.alloc (.cells #[.string (bs f.s), .int .i64 (f.sure : Nat)] 132)).drew W.heap.size 132 #[.string (bs f.s), .int .i64 (f.sure : Nat)] := (Blk.new W _ _).drew
    obtain ⟨w1, hw1⟩ : ∃ w1, w1 = (W.alloc (.cells #[.string (bs f.s), .int .i64 (f.sure : Nat)] 132)).drew := ⟨_, rfl⟩
    rw [← hw1] at hb1 F1 ⊢
    clear hw1
    replace hk := hk.below hb1
    replace hO := hO.trans (Off.of_below hb1 (Nat.le_trans hB0 hW.size))
    replace b2 := b2.below hb1
    replace b3 := b3.below hb1
    replace b4 := b4.below hb1
    have x4 := b4.cell (i := 0) rfl
    have g0 := F1.cell (i := 0) rfl
    rw [hz] at g0
    have hm2 : m ≤ 9223372036854775807 := hm
    have hf2 : f.s.length ≤ 9223372036854775807 := by omega
    have hm0 : (0 : Int) ≤ (m : Int) := by omega
    have x2 := b2.cell (i := 0) rfl
    obtain ⟨x0, x1⟩ := d_cells hk
    by_cases hbig : f.s.length < m
    · go_wp2_with fail
      go_ret
      rw [hr1.out hbig]
      exact ⟨rfl, hk, hO⟩
    · have hbig2 : m ≤ f.s.length := Nat.le_of_not_lt hbig
      have hBW : B ≤ W.heap.size := Nat.le_trans hB0 hW.size
      rw [hz] at F1
      have hdo := do_any 59 #[.pointer (some ⟨w.heap.size, 0, none⟩), .pointer (some ⟨w.heap.size + 3, 0, none⟩), .pointer (some ⟨w.heap.size + 2, 0, none⟩), .pointer (some ⟨w.heap.size + 1, 0, none⟩)] (enters_of Tryz.func59 (by kernel_rfl) rfl) _ h d B hk hB
        (fun d => { d with fs := fput d.fs n ⟨f.s.take m, m⟩, used := d.used - (f.s.length - m : Nat) })
        (fun w2 hk2 ho2 => truncF_any w2 h _ B hk2 hB n f m _ _ _ _ (ho2.blk F1 n0_file) (ho2.blk b2 n0_ptr) (ho2.blk b4 n0_int) (ho2.blk b3 n0_str) ha.srt (by have := ha.num; show d.fs.length < _; omega) hn (Nat.le_of_not_lt hbig) (by show _ ≤ d.used; omega) (by show d.used ≤ _; omega))
      rw [← hr2.out hbig] at hdo
      replace hdo := Lib.hid hdo
      go_wp2_with (go_at_call 58; refine hdo.out.mono ?_; rintro e1 w2 ⟨rfl, hk1, ho1⟩)
      go_ret
      exact ⟨rfl, hk1, hO.trans ho1⟩
end Go.Proofs.YtnoebccoaeiakaaGreatDoor

namespace Go.Proofs.YtnoebccoaeiakaaGreatDoor
open Go.RowKit Go.Bar Go.Bar.Wal Go.Conc
attribute [local go_sem] Oper.semAt_some

set_option maxHeartbeats 4000000 in
set_option maxRecDepth 10000 in
theorem dRead_any (w : World) (h : Hd) (d : Ds) (k : DkAt w h d) (n : List UInt8) (hn : n.length ≤ maxLen) :
    Calls Tryz.prog 26 #[.pointer (some ⟨h.D, 0, none⟩), .string (bs n)] w (RetBelow w (.tuple #[.string (bs (d.read n).1), .int .i64 ((d.read n).2 : Nat)])) := by
  obtain ⟨x0, x1⟩ := d_cells k
  have hlk : (Instr.lookup 48 (.map (some h.M)) (.string (bs n)) true).run Tryz.prog w = .ok (.tuple #[fiV ((fnd d.fs n).getD Fi.z), .bool (fnd d.fs n).isSome]) w := by
    obtain ⟨⟨a, b, k1, _⟩, _, _⟩ := k
    exact k1.mp.look_ok fm_ty n hn
  unfold Ds.read
  cases hfn : fnd d.fs n with
  | none =>
    rw [hfn] at hlk
    simp only [Option.getD_none, Option.isSome_none, Fi.z, fiV] at hlk
    go_enter Tryz.func26, Tryz.ntmps26
    go_wp2_with fail
    go_ret2
    exact ⟨rfl, (Below.refl _ w).alloc (Nat.le_refl _) _⟩
  | some f =>
    rw [hfn] at hlk
    simp only [Option.getD_some, Option.isSome_some, fiV] at hlk
    go_enter Tryz.func26, Tryz.ntmps26
    go_wp2_with fail
    go_ret2
    exact ⟨rfl, (Below.refl _ w).alloc (Nat.le_refl _) _⟩
end Go.Proofs.YtnoebccoaeiakaaGreatDoor

namespace Go.Bar
open Go.RowKit
theorem SlAt.of_row {w : World} {base : Nat} {e : TypeId} {sz n : Nat} {v : Value} {xs : List Value} (h : w.ownsRow base e sz v n xs) : SlAt w sz v n xs := by
  obtain ⟨hl, ⟨rfl, rfl⟩ | ⟨g, cap, cur, rfl, hb, hg, hnc, hcm, hcs, hx⟩⟩ := h
  · exact ⟨hl, none, 0, rfl, Nat.le_refl _, Nat.zero_le _, fun h0 => by omega⟩
  · refine ⟨hl, _, cap, rfl, hnc, hcm, fun h0 => ⟨g, 0, rfl, (Array.getElem?_eq_some_iff.1 hg).1, fun j hj => ?_⟩⟩
    rw [cell_of_block hg]
    rw [← hx, List.getElem?_take, if_pos hj]
    simp
end Go.Bar
namespace Go.Bar.Wal
open Go.RowKit Go.Bar
theorem strKeys_of (fs : Fs) : strKeys (dOf fs) = fs.map (·.1) := by
  unfold strKeys dOf
  simp only [List.map_map]
  rfl
theorem names_sorted {fs : Fs} (hs : Srt fs) {ss : List (List UInt8)} (h : ss.Perm (fs.map (·.1))) : (ss.mergeSort fun x y => decide (x ≤ y)) = fs.map (·.1) := by
  have h1 : (ss.mergeSort fun x y => decide (x ≤ y)).Perm (fs.map (·.1)) := (List.mergeSort_perm _ _).trans h
  have h2 : (ss.mergeSort fun x y => decide (x ≤ y)).Pairwise (fun x y => decide (x ≤ y) = true) := List.pairwise_mergeSort (fun a b c hab hbc => by
    simp only [decide_eq_true_eq] at *
    exact List.le_trans hab hbc) (fun a b => by
    simp only [Bool.or_eq_true, decide_eq_true_eq]
    exact List.le_total a b) ss
  have h3 : (fs.map (·.1)).Pairwise (fun x y => decide (x ≤ y) = true) := by
    refine List.pairwise_map.2 (hs.imp fun hab => ?_)
    exact decide_eq_true (List.le_of_lt hab)
  exact h1.eq_of_pairwise (fun a b _ _ hab hba => List.le_antisymm (of_decide_eq_true hab) (of_decide_eq_true hba)) h2 h3
end Go.Bar.Wal
namespace Go.Proofs.YtnoebccoaeiakaaGreatDoor
open Go.RowKit Go.Bar Go.Bar.Wal Go.Conc Go.Sort Go.Shelf
attribute [local go_sem] Oper.semAt_some

theorem keys_any (M : Nat) (w : World) : Calls Tryz.prog 80 #[.map (some M)] w fun e w' => e = .returned (.func (.func 114) #[] #[.pointer (some ⟨w.heap.size, 0, none⟩)]) ∧ w.alloc (.cells #[.map (some M)] 48) = w' :=
  ((callsIn_wide (n := 5)).1 (AnyZ.keys_in Tryz.keysA Fence.wide 5 trivial rfl (some M) w)).mono fun _ _ ⟨h1, h2⟩ => ⟨h1, h2.symm⟩
theorem sortsA (m : Nat) : AnyZ.SortsIn Tryz.prog Tryz.sortedA_ren Fence.wide m :=
  ⟨fun blk off cap ss W hH hblk hsz => callsIn_wide.2 (AnyM.slices_Sort_string Tryz.sortA blk off cap ss W hH hblk hsz),
   fun p cap W => callsIn_wide.2 (AnyM.slices_Sort_string_none Tryz.sortA p cap W)⟩
def scs (ss : List (List UInt8)) : List Value := ss.map fun l => .string (bs l)
set_option maxRecDepth 100000 in
set_option maxHeartbeats 4000000 in
theorem sorted_any (M : Nat) (fs : Fs) (w : World) (hm : FmAt Tryz.prog 9 w M fs) (hs : Srt fs) (hn : fs.length ≤ 1000000000) :
    Calls Tryz.prog 79 #[.func (.func 114) #[] #[.pointer (some ⟨w.heap.size, 0, none⟩)]] (w.alloc (.cells #[.map (some M)] 48)) fun e w' => ∃ v, e = .returned v ∧ SlAt w' 1 v fs.length (scs (fs.map (·.1))) ∧ Below w.heap.size (w.alloc (.cells #[.map (some M)] 48)) w' := by
  have hbl := hm.lt
  have hsz : Maps.size (dOf fs) = fs.length := by unfold dOf; rw [Maps.size_eq, List.length_map]
  have hseq : SeqGives Fence.wide 2 Tryz.prog 114 #[.pointer (some ⟨w.heap.size, 0, none⟩)] encStr (fun ss => ss.Perm (strKeys (dOf fs))) (Maps.size (dOf fs)) (w.alloc (.cells #[.map (some M)] 48)) :=
    AnyZ.keys_gives (ρ := Tryz.keysA_ren) { Tryz.keysA with } Fence.wide _ trivial rfl (by omega) w.heap.size M fs.length (dOf fs) (R := fileR) _ (by simp) (by simp) (by
      obtain ⟨es, clock, hb, Ft, hs, hD⟩ := hm
      exact ⟨es, clock, (Below.heap_alloc _ _ M hbl).trans hb, Ft, hs, hD⟩)
  have cS := AnyZ.sorted_in Tryz.sortedA Fence.wide 5 trivial trivial trivial trivial rfl (by omega) (sortsA _) (enters_of Tryz.func113 (by kernel_rfl) rfl) 114 #[.pointer (some ⟨w.heap.size, 0, none⟩)] trivial (enters_of Tryz.func114 (by kernel_rfl) rfl) _ (Maps.size (dOf fs)) (by rw [hsz]; unfold maxLen; omega) (by rw [hsz]; omega) _ hseq
  refine ((callsIn_wide (n := 5)).1 cS).mono ?_
  rintro e w' ⟨v, ss, rfl, hp, hrow, _, hb⟩
  rw [strKeys_of] at hp
  rw [names_sorted hs hp] at hrow
  have hl : ss.length = fs.length := by rw [hp.length_eq, List.length_map]
  rw [hl] at hrow
  exact ⟨v, rfl, SlAt.of_row hrow, hb.mono (by simp)⟩
theorem prefix_take (p s : List UInt8) (_h : p.length ≤ s.length) : (s.take p.length == p) = p.isPrefixOf s := by
  rw [Bool.eq_iff_iff, beq_iff_eq, List.isPrefixOf_iff_prefix]
  constructor
  · intro e; rw [← e]; exact List.take_prefix _ _
  · intro e; exact (List.prefix_iff_eq_take.1 e).symm
set_option maxHeartbeats 4000000 in
theorem hasPrefix0_any (s p : List UInt8) (hs : s.length ≤ maxLen) (hp : p.length ≤ maxLen) (w : World) : Calls Tryz.prog 115 #[.string (bs s), .string (bs p)] w fun e w' => e = .returned (.bool (p.isPrefixOf s)) ∧ w = w' := by
  have hs2 : s.length ≤ 9223372036854775807 := hs
  have hp2 : p.length ≤ 9223372036854775807 := hp
  by_cases hle : p.length ≤ s.length
  · have hsl := slice_to (P := Tryz.prog) Tryz.underlying9 s p.length hle w
    have hpt := Lib.hid (prefix_take p s hle)
    go_enter Tryz.func115, Tryz.ntmps115
    go_wp2_with fail
    go_ret
    exact ⟨by rw [← hpt.out]; rfl, rfl⟩
  · have hpt : p.isPrefixOf s = false := by
      rw [Bool.eq_false_iff]
      intro e
      exact hle (List.isPrefixOf_iff_prefix.1 e).length_le
    rw [hpt]
    clear hpt
    go_enter Tryz.func115, Tryz.ntmps115
    go_wp2_with fail
    go_ret
    exact ⟨rfl, rfl⟩
set_option maxHeartbeats 4000000 in
theorem hasPrefix_any (s p : List UInt8) (hs : s.length ≤ maxLen) (hp : p.length ≤ maxLen) (w : World) : Calls Tryz.prog 81 #[.string (bs s), .string (bs p)] w fun e w' => e = .returned (.bool (p.isPrefixOf s)) ∧ w = w' := by
  have hc := Lib.hid (hasPrefix0_any s p hs hp w)
  go_enter Tryz.func81, Tryz.ntmps81
  go_wp2_with (go_at_call 115; refine hc.out.mono ?_; rintro e w' ⟨rfl, rfl⟩)
  go_ret
  exact ⟨rfl, rfl⟩
def trimP (p s : List UInt8) : List UInt8 := if p.isPrefixOf s then s.drop p.length else s
set_option maxHeartbeats 4000000 in
theorem trimPrefix0_any (s p : List UInt8) (hs : s.length ≤ maxLen) (hp : p.length ≤ maxLen) (w : World) : Calls Tryz.prog 127 #[.string (bs s), .string (bs p)] w fun e w' => e = .returned (.string (bs (trimP p s))) ∧ w = w' := by
  have hs2 : s.length ≤ 9223372036854775807 := hs
  have hp2 : p.length ≤ 9223372036854775807 := hp
  have hc := Lib.hid (hasPrefix0_any s p hs hp w)
  unfold trimP
  rcases hb : p.isPrefixOf s with _ | _
  · rw [hb] at hc
    rw [if_neg (by decide)]
    clear hb
    go_enter Tryz.func127, Tryz.ntmps127
    go_wp2_with (go_at_call 115; refine hc.out.mono ?_; rintro e w' ⟨rfl, rfl⟩)
    go_ret
    exact ⟨rfl, rfl⟩
  · have hle := (List.isPrefixOf_iff_prefix.1 hb).length_le
    have hsl := slice_from (P := Tryz.prog) Tryz.underlying9 s p.length hle w
    rw [hb] at hc
    rw [if_pos rfl]
    clear hb
    go_enter Tryz.func127, Tryz.ntmps127
    go_wp2_with (go_at_call 115; refine hc.out.mono ?_; rintro e w' ⟨rfl, rfl⟩)
    go_ret
    exact ⟨rfl, rfl⟩
set_option maxHeartbeats 4000000 in
theorem trimPrefix_any (s p : List UInt8) (hs : s.length ≤ maxLen) (hp : p.length ≤ maxLen) (w : World) : Calls Tryz.prog 95 #[.string (bs s), .string (bs p)] w fun e w' => e = .returned (.string (bs (trimP p s))) ∧ w = w' := by
  have hc := Lib.hid (trimPrefix0_any s p hs hp w)
  go_enter Tryz.func95, Tryz.ntmps95
  go_wp2_with (go_at_call 127; refine hc.out.mono ?_; rintro e w' ⟨rfl, rfl⟩)
  go_ret
  exact ⟨rfl, rfl⟩
end Go.Proofs.YtnoebccoaeiakaaGreatDoor
