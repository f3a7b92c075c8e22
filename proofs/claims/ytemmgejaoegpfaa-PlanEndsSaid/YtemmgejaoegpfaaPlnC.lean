/-
  Layer 10: listing.New of metas that lie by names; sorts of no metas.
-/
import Derived.Test.YtemmgejaoegpfaaPlnB
namespace Go.Proofs.Ytemmgejaoegpfaa
open Go.RowKit Go.Bar Go.Bar.Leb Go.Bar.Frm Go.Bar.Idt Go.Bar.Met Go.Bar.Pln

set_option maxHeartbeats 1000000 in
set_option maxRecDepth 10000 in
theorem insNone_any (g : Nat) (A : Option Addr) (c : Nat) (w : World) : Calls Try.prog 45 #[.slice A 0 c, .int .i64 0, .int .i64 0, .func (.func g) #[] #[]] w fun e w' => e = .returned (.tuple #[]) ∧ w = w' := by
  go_enter Try.func45, Try.ntmps45
  go_wp2_with fail
  go_loop [8] (fun i => i = .int .i64 1) (fun _ => 0)
  case atStart => rfl
  case round =>
    obtain rfl := hrel
    go_wp2_with fail
    go_end0
    exact ⟨rfl, rfl⟩

set_option maxHeartbeats 1000000 in
set_option maxRecDepth 100000 in
theorem sortIdsNone_any (A : Option Addr) (c : Nat) (w : World) :
    Calls Try.prog 28 #[.slice A 0 c, .func (.func 29) #[] #[]] w fun e w' => e = .returned (.tuple #[]) ∧ w = w' := by
  have HI := Lib.hid (insNone_any 29 A c)
  have hq : ∀ (q : Int) (w : World), Calls Try.prog 39 #[.slice A 0 c, .int .i64 0, .int .i64 0, .int .i64 q, .func (.func 29) #[] #[]] w fun e w' => e = .returned (.tuple #[]) ∧ w = w' := by
    intro q w
    go_enter Try.func39, Try.ntmps39
    go_wp2_with fail
    go_loop [1, 2, 3, 10, 11] (fun a b l x y => a = .int .i64 0 ∧ b = .int .i64 0 ∧ l = .int .i64 q ∧ x = .bool true ∧ y = .bool true) (fun _ _ _ _ _ => 0)
    case atStart => exact ⟨rfl, rfl, rfl, rfl, rfl⟩
    case round =>
      obtain ⟨rfl, rfl, rfl, rfl, rfl⟩ := hrel
      go_wp2_with fail
      refine (HI.out _).mono ?_
      rintro e w' ⟨rfl, rfl⟩
      go_wp2_with fail
      refine bodyPost_ret (results_none rfl _ _ _) rfl ?_
      exact ⟨rfl, rfl⟩
  have HQ := Lib.hid hq
  clear hq
  have hb := Try.bits_Len 0 w (by omega) (by omega)
  have hb2 : Calls Try.prog 40 #[.int .u64 0] w fun e w' => (∃ q : Int, e = .returned (.int .i64 q)) ∧ w = w' := hb.mono fun _ _ ⟨h1, h2⟩ => ⟨⟨_, h1⟩, h2.symm⟩
  have HB := Lib.hid hb2
  clear hb hb2
  go_enter Try.func28, Try.ntmps28
  go_wp2_with fail
  refine HB.out.mono ?_
  rintro e w' ⟨⟨q, rfl⟩, rfl⟩
  go_wp2_with fail
  refine (HQ.out q _).mono ?_
  rintro e w' ⟨rfl, rfl⟩
  go_wp2_with fail
  go_end0
  exact ⟨rfl, rfl⟩

set_option maxHeartbeats 1000000 in
set_option maxRecDepth 100000 in
theorem stableNone_any (A : Option Addr) (c : Nat) (w : World) :
    Calls Try.prog 34 #[.slice A 0 c, .func (.func 35) #[] #[]] w fun e w' => e = .returned (.tuple #[]) ∧ w = w' := by
  have HI := Lib.hid (insNone_any 35 A c)
  have hst : ∀ w, Calls Try.prog 43 #[.slice A 0 c, .int .i64 0, .func (.func 35) #[] #[]] w fun e w' => e = .returned (.tuple #[]) ∧ w = w' := by
    intro w
    go_enter Try.func43, Try.ntmps43
    go_wp2_with fail
    go_loop [7, 8] (fun i j => i = .int .i64 0 ∧ j = .int .i64 20) (fun _ _ => 0)
    case atStart => exact ⟨rfl, rfl⟩
    case round =>
      obtain ⟨rfl, rfl⟩ := hrel
      go_wp2_with fail
      refine (HI.out _).mono ?_
      rintro e w' ⟨rfl, rfl⟩
      go_wp2_with fail
      go_loop [6] (fun i => i = .int .i64 20) (fun _ => 0)
      case atStart => rfl
      case round =>
        obtain rfl := hrel
        go_wp2_with fail
        go_end0
        exact ⟨rfl, rfl⟩
  have HST := Lib.hid hst
  clear hst HI
  go_enter Try.func34, Try.ntmps34
  go_wp2_with fail
  refine (HST.out _).mono ?_
  rintro e w' ⟨rfl, rfl⟩
  go_wp2_with fail
  go_end0
  exact ⟨rfl, rfl⟩

theorem cloneMap_any (b n : Nat) (mk : Marks) (w : World) (h : MpAt Try.prog 9 3 w b n mk) :
    Calls Try.prog 27 #[.map (some b)] w fun e w' => e = .returned (.map (some w.heap.size)) ∧ MpAt Try.prog 9 3 w' w.heap.size n mk ∧ Below w.heap.size w w' := by
  obtain ⟨D, hown, hs⟩ := h
  exact (Go.Proofs.AnyW.maps_Clone_owns Try.cloneMap 9 (plainElem Try.prog 3) b n D w hown).mono fun e w' ⟨h1, h2, _, h4⟩ => ⟨h1, ⟨D, h2, hs⟩, h4⟩

/-- a listing, made by the call -/
def RetLi (w0 w : World) (at_ : Int) (l : List Mt) (mk : Marks) (n : Nat) (e : Ending) (w' : World) : Prop := ∃ v, e = .returned v ∧ LiAt w0 w' v at_ l mk n ∧ Below w.heap.size w w'

set_option maxHeartbeats 4000000 in
set_option maxRecDepth 10000 in
theorem new_any (at_ : Int) (mv : Value) (l : List Mt) (b n : Nat) (mk : Marks) (w0 w : World) (h : MsAt w0 w mv l) (hm : MpAt Try.prog 9 3 w b n mk) (hl : Lst l) :
    Calls Try.prog 16 #[.int .i64 at_, mv, .map (some b)] w (RetLi w0 w at_ l mk n) := by
  have hc : ∀ w', Below w.heap.size w w' → Calls Try.prog 26 #[mv] w' (RetMs w0 w' l) := fun w' hb => cloneMs_any mv l w0 w' (h.below hb) (by have := hl.len; omega)
  have HC := Lib.hid hc
  have hcm : ∀ w', Below w.heap.size w w' → Calls Try.prog 27 #[.map (some b)] w' fun e w'' => e = .returned (.map (some w'.heap.size)) ∧ MpAt Try.prog 9 3 w'' w'.heap.size n mk ∧ Below w'.heap.size w' w'' := fun w' hb => cloneMap_any b n mk w' (hm.below hb)
  have HCM := Lib.hid hcm
  have hasc := hl.asc
  have hlen := hl.len
  have hqm := fun (w : World) (p : Option Nat) => Go.Proofs.run_eql_map_nil_sl (P := Try.prog) w 24 _ _ p Try.underlying24
  clear hc hcm h hm hl
  go_enter Try.func16, Try.ntmps16
  go_wp2_with fail
  have R1 := Blk.new w #[.int .i64 0, .slice none 0 0, .map none] 26
  refine (HC.out _ (below_al _ _)).mono ?_
  rintro e w1 ⟨v1, rfl, hn⟩
  have R2 := R1.below hn.below_
  clear R1
  go_wp2_with fail
  refine (HCM.out _ (below_trans (below_al _ _) hn.below_)).mono ?_
  rintro e w2 ⟨rfl, hm2, hb2⟩
  have R3 := R2.below hb2
  have hn2 := hn.then_below hb2
  have hB2 := below_trans (below_trans (below_al w (.cells #[.int .i64 0, .slice none 0 0, .map none] 26)) hn.below_) hb2
  have hw1 : w.heap.size < w1.heap.size := by have := hn.below_.size; simp at this; omega
  have hw2 : w1.heap.size < w2.heap.size := hm2.lt
  obtain ⟨A1, c1, rfl, hc1, _⟩ := hn2.shape
  have hlt0 : ∀ m, l[0]? = some m → ∀ bb o, A1 = some ⟨bb, o, none⟩ → bb < w1.heap.size := fun m hm bb o he => by
    obtain ⟨b', o', _, e, h, _⟩ := hn.slice.at_ hm
    rw [he] at e
    injection e with e
    injection e with e _ _
    rw [e]; exact h
  clear R2 hn
  go_wp2_with fail
  have X3 := Blk.new w2 #[.int .i64 at_, .slice A1 l.length c1, .map (some w1.heap.size)] 26
  have hb3 := below_al w2 (.cells #[.int .i64 at_, .slice A1 l.length c1, .map (some w1.heap.size)] 26)
  have R4 := R3.below hb3
  have hm3 := hm2.below hb3
  have hn3 := hn2.then_below hb3
  have hB3 := below_trans hB2 hb3
  clear R3 hm2 hn2 hb2 hB2 hb3
  obtain ⟨w3, hw3⟩ : ∃ w3, w3 = w2.alloc (.cells #[.int .i64 at_, .slice A1 l.length c1, .map (some w1.heap.size)] 26) := ⟨_, rfl⟩
  rw [← hw3] at X3 R4 hm3 hn3 hB3 ⊢
  clear hw3
  have hs : Calls Try.prog 28 #[.slice A1 l.length c1, .func (.func 29) #[] #[]] w3
      fun e w4 => e = .returned (.tuple #[]) ∧ Blk w4 w.heap.size 26 #[.int .i64 0, .slice none 0 0, .map none] ∧ Blk w4 w2.heap.size 26 #[.int .i64 at_, .slice A1 l.length c1, .map (some w1.heap.size)] ∧ MpAt Try.prog 9 3 w4 w1.heap.size n mk ∧ NMs w0 w w4 55 (.slice A1 l.length c1) l ∧ Below w.heap.size w w4 := by
    rcases Nat.eq_zero_or_pos l.length with h0 | h0
    · obtain rfl : l = [] := List.eq_nil_of_length_eq_zero h0
      refine (sortIdsNone_any A1 c1 w3).mono ?_
      rintro e w4 ⟨rfl, rfl⟩
      exact ⟨rfl, R4, X3, hm3, hn3.after (below_al _ _), hB3⟩
    · obtain ⟨m, hm⟩ : ∃ m, l[0]? = some m := ⟨_, List.getElem?_eq_getElem h0⟩
      obtain ⟨bb, o, _, rfl, _⟩ := hn3.slice.at_ hm
      have hnew : w.heap.size + 1 ≤ bb := by
        obtain ⟨xs, _, hnb, _⟩ := hn3
        have := hnb.new bb rfl
        simpa using this
      have hlt := hlt0 m hm bb o rfl
      refine (sortIds_any bb o c1 l w0 _ w3 hn3 h0 (by omega) hasc).mono ?_
      rintro e w4 ⟨rfl, hn4, hg⟩
      exact ⟨rfl, R4.grown hg (by omega), X3.grown hg (by omega), hm3.grown hg (by omega), hn4.after (below_al _ _), grown_below hB3 hg (by omega) (Nat.le_refl _)⟩
  have HS := Lib.hid hs
  clear hs hm3 hn3 hB3 R4 hlt0
  have x1 : w3.cell? ⟨w2.heap.size, 1, none⟩ = some (.slice A1 l.length c1) := X3.cell (i := 1) rfl
  have x2 : w3.cell? ⟨w2.heap.size, 2, none⟩ = some (.map (some w1.heap.size)) := X3.cell (i := 2) rfl
  clear X3
  go_wp2_with fail
  refine HS.out.mono ?_
  rintro e w4 ⟨rfl, R5, X5, hm5, hv5, hB5⟩
  clear x1 x2 HS hasc
  have x0 : w4.cell? ⟨w2.heap.size, 0, none⟩ = some (.int .i64 at_) := X5.cell (i := 0) rfl
  have x1 : w4.cell? ⟨w2.heap.size, 1, none⟩ = some (.slice A1 l.length c1) := X5.cell (i := 1) rfl
  have x2 : w4.cell? ⟨w2.heap.size, 2, none⟩ = some (.map (some w1.heap.size)) := X5.cell (i := 2) rfl
  have r0 : w4.cell? ⟨w.heap.size, 0, none⟩ = some (.int .i64 0) := R5.cell (i := 0) rfl
  have r1 : w4.cell? ⟨w.heap.size, 1, none⟩ = some (.slice none 0 0) := R5.cell (i := 1) rfl
  have r2 : w4.cell? ⟨w.heap.size, 2, none⟩ = some (.map none) := R5.cell (i := 2) rfl
  have q0 := R5.free 0
  have q1 := R5.free 1
  have q2 := R5.free 2
  have HE : Hid (LiAt w0 (((w4.setCell ⟨w.heap.size, 0, none⟩ (.int .i64 at_)).setCell ⟨w.heap.size, 1, none⟩ (.slice A1 l.length c1)).setCell ⟨w.heap.size, 2, none⟩ (.map (some w1.heap.size))) (.agg #[.int .i64 at_, .slice A1 l.length c1, .map (some w1.heap.size)]) at_ l mk n ∧ Below w.heap.size w (((w4.setCell ⟨w.heap.size, 0, none⟩ (.int .i64 at_)).setCell ⟨w.heap.size, 1, none⟩ (.slice A1 l.length c1)).setCell ⟨w.heap.size, 2, none⟩ (.map (some w1.heap.size)))) := by
    refine Lib.hid ⟨⟨_, _, rfl, ?_, ((hm5.set _ _ _).set _ _ _).set _ _ _⟩, ((hB5.setCell (Nat.le_refl _) _).setCell (Nat.le_refl _) _).setCell (Nat.le_refl _) _⟩
    exact (((hv5.set_ne R5 (by decide) (Nat.le_refl _) _ _).set_ne (R5.set _ _) (by decide) (Nat.le_refl _) _ _).set_ne ((R5.set _ _).set _ _) (by decide) (Nat.le_refl _) _ _).slice
  clear R5 X5 hm5 hv5 hB5
  go_wp2_with fail
  refine bodyPost_ret (v := .agg #[.int .i64 at_, .slice A1 l.length c1, .map (some w1.heap.size)]) (by simp [results, Try.results16, go_sem, r0, r1, r2]) rfl ?_
  exact ⟨_, rfl, HE.out⟩
end Go.Proofs.Ytemmgejaoegpfaa
