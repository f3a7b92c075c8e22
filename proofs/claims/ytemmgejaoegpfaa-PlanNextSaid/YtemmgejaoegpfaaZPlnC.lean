/-
  Layer 10: listing.New of metas that lie by names; sorts of no metas.
-/
import Derived.Test.YtemmgejaoegpfaaZPlnB

namespace Go.Proofs.Ytemmgejaoegpfaa
open Go.RowKit Go.Bar Go.Bar.Leb Go.Bar.Frm Go.Bar.Idt Go.Bar.Met Go.Bar.Pln

set_option maxHeartbeats 1000000 in
set_option maxRecDepth 10000 in
theorem insNone_any (g : Nat) (A : Option Addr) (c : Nat) (w : World) : Calls Try.prog 45 #[.slice A 0 c, .int .i64 0, .int .i64 0, .func (.func g) #[] #[]] w fun e w' => e = .returned (.tuple #[]) ∧ w = w' := by
  go_enter Try.func45, Try.ntmps45
  go_wp2_with fail
  go_loop [8] (fun i => i = .int .i64 1) (fun _ => 0)
  case atStart => rfl
  case round =>
    obtain rfl := hrel
    go_wp2_with fail
    go_end0
    exact ⟨rfl, rfl⟩

set_option maxHeartbeats 1000000 in
set_option maxRecDepth 100000 in
theorem sortIdsNone_any (A : Option Addr) (c : Nat) (w : World) :
    Calls Try.prog 28 #[.slice A 0 c, .func (.func 29) #[] #[]] w fun e w' => e = .returned (.tuple #[]) ∧ w = w' := by
  have HI := Lib.hid (insNone_any 29 A c)
  have hq : ∀ (q : Int) (w : World), Calls Try.prog 39 #[.slice A 0 c, .int .i64 0, .int .i64 0, .int .i64 q, .func (.func 29) #[] #[]] w fun e w' => e = .returned (.tuple #[]) ∧ w = w' := by
    intro q w
    go_enter Try.func39, Try.ntmps39
    go_wp2_with fail
    go_loop [1, 2, 3, 10, 11] (fun a b l x y => a = .int .i64 0 ∧ b = .int .i64 0 ∧ l = .int .i64 q ∧ x = .bool true ∧ y = .bool true) (fun _ _ _ _ _ => 0)
    case atStart => exact ⟨rfl, rfl, rfl, rfl, rfl⟩
    case round =>
      obtain ⟨rfl, rfl, rfl, rfl, rfl⟩ := hrel
      go_wp2_with fail
      refine (HI.out _).mono ?_
      rintro e w' ⟨rfl, rfl⟩
      go_wp2_with fail
      refine bodyPost_ret (results_none rfl _ _ _) rfl ?_
      exact ⟨rfl, rfl⟩
  have HQ := Lib.hid hq
  clear hq
  have hb := Try.bits_Len 0 w (by omega) (by omega)
  have hb2 : Calls Try.prog 40 #[.int .u64 0] w fun e w' => (∃ q : Int, e = .returned (.int .i64 q)) ∧ w = w' := hb.mono fun _ _ ⟨h1, h2⟩ => ⟨⟨_, h1⟩, h2.symm⟩
  have HB := Lib.hid hb2
  clear hb hb2
  go_enter Try.func28, Try.ntmps28
  go_wp2_with fail
  refine HB.out.mono ?_
  rintro e w' ⟨⟨q, rfl⟩, rfl⟩
  go_wp2_with fail
  refine (HQ.out q _).mono ?_
  rintro e w' ⟨rfl, rfl⟩
  go_wp2_with fail
  go_end0
  exact ⟨rfl, rfl⟩

set_option maxHeartbeats 1000000 in
set_option maxRecDepth 100000 in
theorem stableNone_any (A : Option Addr) (c : Nat) (w : World) :
    Calls Try.prog 34 #[.slice A 0 c, .func (.func 35) #[] #[]] w fun e w' => e = .returned (.tuple #[]) ∧ w = w' := by
  have HI := Lib.hid (insNone_any 35 A c)
  have hst : ∀ w, Calls Try.prog 43 #[.slice A 0 c, .int .i64 0, .func (.func 35) #[] #[]] w fun e w' => e = .returned (.tuple #[]) ∧ w = w' := by
    intro w
    go_enter Try.func43, Try.ntmps43
    go_wp2_with fail
    go_loop [7, 8] (fun i j => i = .int .i64 0 ∧ j = .int .i64 20) (fun _ _ => 0)
    case atStart => exact ⟨rfl, rfl⟩
    case round =>
      obtain ⟨rfl, rfl⟩ := hrel
      go_wp2_with fail
      refine (HI.out _).mono ?_
      rintro e w' ⟨rfl, rfl⟩
      go_wp2_with fail
      go_loop [6] (fun i => i = .int .i64 20) (fun _ => 0)
      case atStart => rfl
      case round =>
        obtain rfl := hrel
        go_wp2_with fail
        go_end0
        exact ⟨rfl, rfl⟩
  have HST := Lib.hid hst
  clear hst HI
  go_enter Try.func34, Try.ntmps34
  go_wp2_with fail
  refine (HST.out _).mono ?_
  rintro e w' ⟨rfl, rfl⟩
  go_wp2_with fail
  go_end0
  exact ⟨rfl, rfl⟩

theorem cloneMap_any (b n : Nat) (mk : Marks) (w : World) (h : MpAt Try.prog 9 3 w b n mk) :
    Calls Try.prog 27 #[.map (some b)] w fun e w' => e = .returned (.map (some w.heap.size)) ∧ MpAt Try.prog 9 3 w' w.heap.size n mk ∧ Below w.heap.size w w' := by
  obtain ⟨D, hown, hs⟩ := h
  exact (Go.Proofs.AnyW.maps_Clone_owns Try.cloneMap 9 (plainElem Try.prog 3) b n D w hown).mono fun e w' ⟨h1, h2, _, h4⟩ => ⟨h1, ⟨D, h2, hs⟩, h4⟩

/-- a listing, made by the call -/
def RetLi (w0 w : World) (at_ : Int) (l : List Mt) (mk : Marks) (n : Nat) (e : Ending) (w' : World) : Prop := ∃ v, e = .returned v ∧ LiAt w0 w' v at_ l mk n ∧ Below w.heap.size w w'

set_option maxHeartbeats 4000000 in
set_option maxRecDepth 10000 in
theorem new_any (at_ : Int) (mv : Value) (l : List Mt) (b n : Nat) (mk : Marks) (w0 w : World) (h : MsAt w0 w mv l) (hm : MpAt Try.prog 9 3 w b n mk) (hl : Lst l) :
    Calls Try.prog 16 #[.int .i64 at_, mv, .map (some b)] w (RetLi w0 w at_ l mk n) := by
  have hc : ∀ w', Below w.heap.size w w' → Calls Try.prog 26 #[mv] w' (RetMs w0 w' l) := fun w' hb => cloneMs_any mv l w0 w' (h.below hb) (by have := hl.len; omega)
  have HC := Lib.hid hc
  have hcm : ∀ w', Below w.heap.size w w' → Calls Try.prog 27 #[.map (some b)] w' fun e w'' => e = .returned (.map (some w'.heap.size)) ∧ MpAt Try.prog 9 3 w'' w'.heap.size n mk ∧ Below w'.heap.size w' w'' := fun w' hb => cloneMap_any b n mk w' (hm.below hb)
  have HCM := Lib.hid hcm
  have hasc := hl.asc
  have hlen := hl.len
  have hqm := fun (w : World) (p : Option Nat) => Go.Proofs.run_eql_map_nil_sl (P := Try.prog) w 24 _ _ p Try.underlying24
  clear hc hcm h hm hl
  go_enter Try.func16, Try.ntmps16
  go_wp2_with fail
  have R1 := Blk.new w #[.int .i64 0, .slice none 0 0, .map none] 26
  refine (HC.out _ (below_al _ _)).mono ?_
  rintro e w1 ⟨v1, rfl, hn⟩
  have R2 := R1.below hn.below_
  clear R1
  go_wp2_with fail
  refine (HCM.out _ (below_trans (below_al _ _) hn.below_)).mono ?_
  rintro e w2 ⟨rfl, hm2, hb2⟩
  have R3 := R2.below hb2
  have hn2 := hn.then_below hb2
  have hB2 := below_trans (below_trans (below_al w (.cells #[.int .i64 0, .slice none 0 0, .map none] 26)) hn.below_) hb2
  have hw1 : w.heap.size < w1.heap.size := by have := hn.below_.size; simp at this; omega
  have hw2 : w1.heap.size < w2.heap.size := hm2.lt
  obtain ⟨A1, c1, rfl, hc1, _⟩ := hn2.shape
  have hlt0 : ∀ m, l[0]? = some m → ∀ bb o, A1 = some ⟨bb, o, none⟩ → bb < w1.heap.size := fun m hm bb o he => by
    obtain ⟨b', o', _, e, h, _⟩ := hn.slice.at_ hm
    rw [he] at e
    injection e with e
    injection e with e _ _
    rw [e]; exact h
  clear R2 hn
  go_wp2_with fail
  have X3 := Blk.new w2 #[.int .i64 at_, .slice A1 l.length c1, .map (some w1.heap.size)] 26
  have hb3 := below_al w2 (.cells #[.int .i64 at_, .slice A1 l.length c1, .map (some w1.heap.size)] 26)
  have R4 := R3.below hb3
  have hm3 := hm2.below hb3
  have hn3 := hn2.then_below hb3
  have hB3 := below_trans hB2 hb3
  clear R3 hm2 hn2 hb2 hB2 hb3
  obtain ⟨w3, hw3⟩ : ∃ w3, w3 = w2.alloc (.cells #[.int .i64 at_, .slice A1 l.length c1, .map (some w1.heap.size)] 26) := ⟨_, rfl⟩
  rw [← hw3] at X3 R4 hm3 hn3 hB3 ⊢
  clear hw3
  have hs : Calls Try.prog 28 #[.slice A1 l.length c1, .func (.func 29) #[] #[]] w3
      fun e w4 => e = .returned (.tuple #[]) ∧ Blk w4 w.heap.size 26 #[.int .i64 0, .slice none 0 0, .map none] ∧ Blk w4 w2.heap.size 26 #[.int .i64 at_, .slice A1 l.length c1, .map (some w1.heap.size)] ∧ MpAt Try.prog 9 3 w4 w1.heap.size n mk ∧ NMs w0 w w4 55 (.slice A1 l.length c1) l ∧ Below w.heap.size w w4 := by
    rcases Nat.eq_zero_or_pos l.length with h0 | h0
    · obtain rfl : l = [] := List.eq_nil_of_length_eq_zero h0
      refine (sortIdsNone_any A1 c1 w3).mono ?_
      rintro e w4 ⟨rfl, rfl⟩
      exact ⟨rfl, R4, X3, hm3, hn3.after (below_al _ _), hB3⟩
    · obtain ⟨m, hm⟩ : ∃ m, l[0]? = some m := ⟨_, List.getElem?_eq_getElem h0⟩
      obtain ⟨bb, o, _, rfl, _⟩ := hn3.slice.at_ hm
      have hnew : w.heap.size + 1 ≤ bb := by
        obtain ⟨xs, _, hnb, _⟩ := hn3
        have := hnb.new bb rfl
        simpa using this
      have hlt := hlt0 m hm bb o rfl
      refine (sortIds_any bb o c1 l w0 _ w3 hn3 h0 (by omega) hasc).mono ?_
      rintro e w4 ⟨rfl, hn4, hg⟩
      exact ⟨rfl, R4.grown hg (by omega), X3.grown hg (by omega), hm3.grown hg (by omega), hn4.after (below_al _ _), grown_below hB3 hg (by omega) (Nat.le_refl _)⟩
  have HS := Lib.hid hs
  clear hs hm3 hn3 hB3 R4 hlt0
  have x1 : w3.cell? ⟨w2.heap.size, 1, none⟩ = some (.slice A1 l.length c1) := X3.cell (i := 1) rfl
  have x2 : w3.cell? ⟨w2.heap.size, 2, none⟩ = some (.map (some w1.heap.size)) := X3.cell (i := 2) rfl
  clear X3
  go_wp2_with fail
  refine HS.out.mono ?_
  rintro e w4 ⟨rfl, R5, X5, hm5, hv5, hB5⟩
  clear x1 x2 HS hasc
  have x0 : w4.cell? ⟨w2.heap.size, 0, none⟩ = some (.int .i64 at_) := X5.cell (i := 0) rfl
  have x1 : w4.cell? ⟨w2.heap.size, 1, none⟩ = some (.slice A1 l.length c1) := X5.cell (i := 1) rfl
  have x2 : w4.cell? ⟨w2.heap.size, 2, none⟩ = some (.map (some w1.heap.size)) := X5.cell (i := 2) rfl
  have r0 : w4.cell? ⟨w.heap.size, 0, none⟩ = some (.int .i64 0) := R5.cell (i := 0) rfl
  have r1 : w4.cell? ⟨w.heap.size, 1, none⟩ = some (.slice none 0 0) := R5.cell (i := 1) rfl
  have r2 : w4.cell? ⟨w.heap.size, 2, none⟩ = some (.map none) := R5.cell (i := 2) rfl
  have q0 := R5.free 0
  have q1 := R5.free 1
  have q2 := R5.free 2
  have HE : Hid (LiAt w0 (((w4.setCell ⟨w.heap.size, 0, none⟩ (.int .i64 at_)).setCell ⟨w.heap.size, 1, none⟩ (.slice A1 l.length c1)).setCell ⟨w.heap.size, 2, none⟩ (.map (some w1.heap.size))) (.agg #[.int .i64 at_, .slice A1 l.length c1, .map (some w1.heap.size)]) at_ l mk n ∧ Below w.heap.size w (((w4.setCell ⟨w.heap.size, 0, none⟩ (.int .i64 at_)).setCell ⟨w.heap.size, 1, none⟩ (.slice A1 l.length c1)).setCell ⟨w.heap.size, 2, none⟩ (.map (some w1.heap.size)))) := by
    refine Lib.hid ⟨⟨_, _, rfl, ?_, ((hm5.set _ _ _).set _ _ _).set _ _ _⟩, ((hB5.setCell (Nat.le_refl _) _).setCell (Nat.le_refl _) _).setCell (Nat.le_refl _) _⟩
    exact (((hv5.set_ne R5 (by decide) (Nat.le_refl _) _ _).set_ne (R5.set _ _) (by decide) (Nat.le_refl _) _ _).set_ne ((R5.set _ _).set _ _) (by decide) (Nat.le_refl _) _ _).slice
  clear R5 X5 hm5 hv5 hB5
  go_wp2_with fail
  refine bodyPost_ret (v := .agg #[.int .i64 at_, .slice A1 l.length c1, .map (some w1.heap.size)]) (by simp [results, Try.results16, go_sem, r0, r1, r2]) rfl ?_
  exact ⟨_, rfl, HE.out⟩
end Go.Proofs.Ytemmgejaoegpfaa

/-
  Layers 10 and 20: which blocks are shadowed, live, free; the rank; what is to be marked.
-/
namespace Go.Proofs.Ytemmgejaoegpfaa
open Go.RowKit Go.Bar Go.Bar.Leb Go.Bar.Frm Go.Bar.Idt Go.Bar.Met Go.Bar.Pln

/-- a map from texts to ints -/
abbrev Mp (w : World) (b n : Nat) (f : Marks) : Prop := MpAt Try.prog 9 3 w b n f
/-- a map, made by the call -/
def RetMp (w : World) (f : Marks) (N : Nat) (e : Ending) (w' : World) : Prop := ∃ b n, e = .returned (.map (some b)) ∧ Mp w' b n f ∧ n ≤ N ∧ Below w.heap.size w w'
theorem srcs_take {l : List Mt} {k : Nat} {m : Mt} (h : l[k]? = some m) : srcs (l.take (k + 1)) = srcs (l.take k) ++ m.ss := by
  rw [List.take_add_one, h, srcs_append]
  simp [srcs]
theorem srcs_len {l : List Mt} (h : Lst l) (k : Nat) : (srcs (l.take k)).length ≤ 1000000 := by
  have h1 : ∀ l' : List Mt, (∀ m ∈ l', m ∈ l) → (srcs l').length ≤ l'.length * 1000 := by
    intro l'
    induction l' with
    | nil => intro _; simp [srcs]
    | cons m r ih =>
      intro hm
      have a1 := ih (fun m hm' => hm m (by simp [hm']))
      have a2 := (h.sm m (hm m (by simp))).sl
      unfold srcs at a1 ⊢
      rw [List.flatMap_cons, List.length_append, List.length_cons, Nat.add_mul]
      omega
  have h2 := h1 (l.take k) (fun m hm => List.mem_of_mem_take hm)
  have h3 := List.length_take_le k l
  have h4 := h.len
  have : (l.take k).length ≤ 1000 := by rw [List.length_take]; omega
  omega

set_option maxHeartbeats 4000000 in
set_option maxRecDepth 10000 in
theorem shadowed_any (at_ : Int) (mv : Value) (l : List Mt) (b : Nat) (w : World) (h : MsAt w w mv l) (hl : Lst l) :
    Calls Try.prog 18 #[.agg #[.int .i64 at_, mv, .map (some b)]] w (RetMp w (cntF (srcs l)) 1000000) := by
  obtain ⟨A, c, rfl, hlc, hcm⟩ := h.shape
  unfold maxLen at hcm
  have hlen := hl.len
  have HS := Lib.hid (srcs_len hl)
  have hsm := hl.sm
  have HSM := Lib.hid hsm
  clear hl hsm
  have hmm := @run_makeMap Try.prog
  go_enter Try.func18, Try.ntmps18
  go_wp2_with fail
  have hm0 := MpAt.made (w.alloc (.cells #[.int .i64 at_, .slice A l.length c, .map (some b)] 26)) Try.prog 9 3
  have hb0 := below_trans (below_al w (.cells #[.int .i64 at_, .slice A l.length c, .map (some b)] 26)) (below_al _ (.map #[] 0))
  rw [show (w.alloc (.cells #[.int .i64 at_, .slice A l.length c, .map (some b)] 26)).heap.size = w.heap.size + 1 by simp] at hm0
  obtain ⟨w1, hw1⟩ : ∃ w1, w1 = (w.alloc (.cells #[.int .i64 at_, .slice A l.length c, .map (some b)] 26)).alloc (.map #[] 0) := ⟨_, rfl⟩
  rw [← hw1] at hm0 hb0 ⊢
  clear hw1 hmm
  go_loopw [12] (fun i wr => ∃ k n : Nat, i = .int .i64 k ∧ k ≤ l.length ∧ n = (srcs (l.take k)).length ∧ Mp wr (w.heap.size + 1) n (cntF (srcs (l.take k))) ∧ Below w.heap.size w wr) (fun i _ => l.length - (intOf i).toNat)
  case atStart => exact ⟨0, 0, rfl, Nat.zero_le _, by simp [srcs], by rw [List.take_zero, show srcs [] = [] from rfl, cntF_nil]; exact hm0, hb0⟩
  case round =>
    obtain ⟨k, n, rfl, hk, hn, hM, hB⟩ := hrel
    clear hm0 hb0
    by_cases hgo : k < l.length
    · obtain ⟨m, hmk⟩ : ∃ m, l[k]? = some m := ⟨_, List.getElem?_eq_getElem hgo⟩
      obtain ⟨bb, o, x, rfl, _, hxm, hma, c0, c1, c2, c3, c4, c5, c6, c7⟩ := (h.below hB).at_ hmk
      have hsr : SrcAt w (.slice x.sa m.ss.length x.sc) m.ss := by rw [← hxm]; exact hma.2
      obtain ⟨_, _, he, hsc, hscm⟩ := hsr.shape
      injection he with e1 _ e3
      subst e1; subst e3
      unfold maxLen at hscm
      obtain ⟨L, hL⟩ : ∃ L, L = srcs (l.take k) := ⟨_, rfl⟩
      have hL2 := srcs_take hmk
      have hLn : L.length + m.ss.length ≤ 1000000 := by
        have := HS.out (k + 1)
        rw [hL2, List.length_append, ← hL] at this
        exact this
      rw [← hL] at hL2 hM hn
      have HL2 := Lib.hid hL2
      have hms : ∀ s ∈ m.ss, s.length ≤ 1000 := (HSM.out m (List.mem_of_getElem? hmk)).ss
      have HMS := Lib.hid hms
      clear hmk hL hL2 hms hma hxm
      have hci : (0 : Int) ≤ (k : Int) := by omega
      have hM1 := hM.alloc (.cells #[.string (bs m.id), .int .i64 m.mn, .int .i64 m.mx, .int .i64 m.lv, .int .i64 m.sr, .int .i64 m.sm, .slice x.fa m.fs.length x.fc, .slice x.sa m.ss.length x.sc] 55)
      have hB1 := below_trans hB (below_al wr (.cells #[.string (bs m.id), .int .i64 m.mn, .int .i64 m.mx, .int .i64 m.lv, .int .i64 m.sr, .int .i64 m.sm, .slice x.fa m.fs.length x.fc, .slice x.sa m.ss.length x.sc] 55))
      clear hM hB
      go_wp2_with fail
      obtain ⟨wo, hwo⟩ : ∃ wo, wo = wr.alloc (.cells #[.string (bs m.id), .int .i64 m.mn, .int .i64 m.mx, .int .i64 m.lv, .int .i64 m.sr, .int .i64 m.sm, .slice x.fa m.fs.length x.fc, .slice x.sa m.ss.length x.sc] 55) := ⟨_, rfl⟩
      rw [← hwo] at hM1 hB1 ⊢
      clear hwo c0 c1 c2 c3 c4 c5 c6 c7
      go_loopw [19] (fun j wi => ∃ q q' : Nat, j = .int .i64 q ∧ q ≤ m.ss.length ∧ q' = L.length + q ∧ Mp wi (w.heap.size + 1) q' (cntF (L ++ m.ss.take q)) ∧ Below w.heap.size w wi) (fun j _ => m.ss.length - (intOf j).toNat)
      case atStart => exact ⟨0, n, rfl, Nat.zero_le _, by omega, by rw [List.take_zero, List.append_nil]; exact hM1, hB1⟩
      case round =>
        obtain ⟨q, q', rfl, hq, hq', hM2, hB2⟩ := hrel
        clear hM1 hB1
        by_cases hgo2 : q < m.ss.length
        · obtain ⟨s, hs⟩ : ∃ s, m.ss[q]? = some s := ⟨_, List.getElem?_eq_getElem hgo2⟩
          obtain ⟨b2, o2, hA2, _, d0⟩ := (hsr.below hB2).at_ hs
          have hA2 := hA2
          have hsl : s.length ≤ maxLen := by
            have := HMS.out s (List.mem_of_getElem? hs)
            unfold maxLen; omega
          obtain ⟨C, hC⟩ : ∃ C : Nat, (L ++ m.ss.take q).count s = C := ⟨_, rfl⟩
          have hC1 : C ≤ 1000000 := by
            have h1 := List.count_le_length (l := L ++ m.ss.take q) (a := s)
            rw [hC, List.length_append, List.length_take] at h1
            omega
          have HG : Hid ((cntF (L ++ m.ss.take q) s).getD 0 = (C : Int)) := Lib.hid (by rw [cntF_getD, hC])
          have HU : Hid (upd (cntF (L ++ m.ss.take q)) s ((C : Int) + 1) = cntF (L ++ m.ss.take (q + 1))) := Lib.hid (by
            rw [List.take_add_one, hs, Option.toList_some, ← List.append_assoc, cntF_snoc, hC]
            rfl)
          have HA2 := Lib.hid hA2
          clear hs hC
          have hci2 : (0 : Int) ≤ (q : Int) := by omega
          obtain ⟨F, hF⟩ : ∃ F, F = cntF (L ++ m.ss.take q) := ⟨_, rfl⟩
          rw [← hF] at HG HU hM2
          clear hF
          rw [HA2.out]
          go_wp2_with (first
            | (at_lookup; refine wpList_lookup_mp _ rfl _ _ 24 rfl marks_ty rfl hM2 s rfl hsl (C : Int) HG.out ?_)
            | (at_mapUpdate; refine wpList_update_mp _ rfl _ _ _ 24 rfl marks_ty rfl hM2 (by unfold maxLen; omega) s rfl hsl ((C : Int) + 1) (by go_num) (by omega) (by omega) ?_; intro w5 hm5 hg5))
          go_roundw
          case rel => exact ⟨q + 1, q' + 1, by go_num, by omega, by omega, by rw [HU.out] at hm5; exact hm5, grown_below hB2 hg5 (by omega) (Nat.le_refl _)⟩
          case measure => simp [intOf]; omega
        · go_wp2_with fail
          obtain rfl : q = m.ss.length := by omega
          rw [List.take_length, ← HL2.out] at hM2
          go_roundw
          case rel => exact ⟨k + 1, q', by go_num, by omega, by rw [HL2.out, List.length_append]; omega, hM2, hB2⟩
          case measure => simp [intOf]; omega
    · obtain rfl : k = l.length := by omega
      rw [List.take_length] at hM hn
      have := HS.out l.length
      rw [List.take_length] at this
      go_wp2_with fail
      go_ret
      exact ⟨_, n, rfl, hM, by omega, hB⟩
end Go.Proofs.Ytemmgejaoegpfaa

/-
  Layers 10 and 20: the live blocks, the free ones, the rank.
-/
namespace Go.Proofs.Ytemmgejaoegpfaa
open Go.RowKit Go.Bar Go.Bar.Leb Go.Bar.Frm Go.Bar.Idt Go.Bar.Met Go.Bar.Pln

/-- a meta's cells -/
def mcell (x : Mv) : Array Value := #[.string (bs x.m.id), .int .i64 x.m.mn, .int .i64 x.m.mx, .int .i64 x.m.lv, .int .i64 x.m.sr, .int .i64 x.m.sm, .slice x.fa x.m.fs.length x.fc, .slice x.sa x.m.ss.length x.sc]
theorem filter_take {p : Mt → Bool} {l : List Mt} {k : Nat} {m : Mt} (h : l[k]? = some m) : (l.take (k + 1)).filter p = (l.take k).filter p ++ (if p m then [m] else []) := by
  rw [List.take_add_one, h, List.filter_append, Option.toList_some]
  congr 1
  simp only [List.filter_cons, List.filter_nil]
theorem filter_take_len (p : Mt → Bool) (l : List Mt) (k : Nat) : ((l.take k).filter p).length ≤ l.length := Nat.le_trans (List.length_filter_le _ _) (by rw [List.length_take]; omega)

theorem NMs.snoc {w0 w wr : World} {T : TypeId} {v : Value} {l : List Mt} {xs : List Mv} {x : Mv} {m : Mt} (hxs : xs.map (·.m) = l) (hma : ∀ x ∈ xs, MAt w0 x) (hx : x.m = m) (ha : MAt w0 x)
    (h : NBuf w wr T 8 v (xs.length + 1) (mcs xs ++ [.string (bs m.id), .int .i64 m.mn, .int .i64 m.mx, .int .i64 m.lv, .int .i64 m.sr, .int .i64 m.sm, .slice x.fa m.fs.length x.fc, .slice x.sa m.ss.length x.sc])) : NMs w0 w wr T v (l ++ [m]) := by
  subst hx
  refine ⟨xs ++ [x], by rw [List.map_append, hxs]; rfl, ?_, fun y hy => ?_⟩
  · rw [List.length_append, mcs_snoc]
    exact h
  · rcases List.mem_append.1 hy with hy | hy
    · exact hma y hy
    · obtain rfl := List.mem_singleton.1 hy
      exact ha

set_option maxHeartbeats 4000000 in
set_option maxRecDepth 10000 in
theorem live_any (at_ : Int) (mv : Value) (l : List Mt) (b : Nat) (w0 w : World) (hw : Below w0.heap.size w0 w) (h : MsAt w0 w mv l) (hl : Lst l) :
    Calls Try.prog 33 #[.agg #[.int .i64 at_, mv, .map (some b)]] w (RetMs w0 w (live l)) := by
  have hs := fun w' (hb : Below w.heap.size w w') => shadowed_any at_ mv l b w' ((h.below hb).base (below_trans hw hb)) hl
  have HSH := Lib.hid hs
  clear hs
  obtain ⟨A, c, rfl, hlc, hcm⟩ := h.shape
  unfold maxLen at hcm
  have hlen := hl.len
  have HSM := Lib.hid hl.sm
  have hG : ∀ m, (cntF (srcs l) m).getD 0 = (gone l m : Int) := fun m => cntF_getD _ _
  have HG := Lib.hid hG
  obtain ⟨F, hF⟩ : ∃ F, F = cntF (srcs l) := ⟨_, rfl⟩
  rw [← hF] at HG
  have HF := Lib.hid hF
  obtain ⟨p, hp⟩ : ∃ p : Mt → Bool, p = fun x => gone l x.id == 0 := ⟨_, rfl⟩
  have hlv : live l = l.filter p := by rw [hp]; rfl
  have hp2 : ∀ m, p m = (gone l m.id == 0) := fun m => by rw [hp]
  have HLV := Lib.hid hlv
  have HP := Lib.hid hp2
  clear hl hG hF hp hlv hp2 hw
  go_enter Try.func33, Try.ntmps33
  go_wp2_with fail
  have hb0 := below_al w (.cells #[.int .i64 at_, .slice A l.length c, .map (some b)] 26)
  refine (HSH.out _ hb0).mono ?_
  rintro e w1 ⟨M, n, rfl, hM, hn, hb1⟩
  have hB1 := below_trans hb0 hb1
  have c1 : w1.cell? ⟨w.heap.size, 1, none⟩ = some (.slice A l.length c) := ((Blk.new w #[.int .i64 at_, .slice A l.length c, .map (some b)] 26).below hb1).cell (i := 1) rfl
  rw [← HF.out] at hM
  clear hb0 hb1
  go_wp2_with fail
  clear c1
  go_loopw [4, 12] (fun ov i wr => ∃ k : Nat, i = .int .i64 k ∧ k ≤ l.length ∧ NMs w0 w wr 55 ov ((l.take k).filter p) ∧ Mp wr M n F) (fun _ i _ => l.length - (intOf i).toNat)
  case atStart => exact ⟨0, rfl, Nat.zero_le _, NMs.nil hB1 _ _, hM⟩
  case round =>
    obtain ⟨k, rfl, hk, hN, hM⟩ := hrel
    clear hB1
    obtain ⟨xs, hxs, hnb, hma⟩ := hN
    have HXS := Lib.hid hxs
    have HMA := Lib.hid hma
    have hxl : xs.length ≤ 1000 := by rw [map_len hxs]; exact Nat.le_trans (filter_take_len p l k) hlen
    obtain ⟨A2, c2, rfl, hc2⟩ := hnb.buf.shape
    clear hxs hma
    by_cases hgo : k < l.length
    · obtain ⟨m, hmk⟩ : ∃ m, l[k]? = some m := ⟨_, List.getElem?_eq_getElem hgo⟩
      obtain ⟨bb, o, x, rfl, _, hxm, hma, c0, c1, c2, c3, c4, c5, c6, c7⟩ := (h.below hnb.below).at_ hmk
      have hid : m.id.length ≤ maxLen := by
        have := (HSM.out m (List.mem_of_getElem? hmk)).id
        unfold maxLen; omega
      have HFT := Lib.hid (filter_take (p := p) hmk)
      have HX := Lib.hid hxm
      have HA := Lib.hid hma
      have hg := HG.out m.id
      have HGM := Lib.hid hg
      clear hmk hxm hma hg
      have hci : (0 : Int) ≤ (k : Int) := by omega
      have hM1 := hM.alloc (.cells #[.string (bs m.id), .int .i64 m.mn, .int .i64 m.mx, .int .i64 m.lv, .int .i64 m.sr, .int .i64 m.sm, .slice x.fa m.fs.length x.fc, .slice x.sa m.ss.length x.sc] 55)
      have hnb1 := hnb.alloc (.cells #[.string (bs m.id), .int .i64 m.mn, .int .i64 m.mx, .int .i64 m.lv, .int .i64 m.sr, .int .i64 m.sm, .slice x.fa m.fs.length x.fc, .slice x.sa m.ss.length x.sc] 55)
      clear hM hnb
      obtain ⟨G, hGG⟩ : ∃ G, G = gone l m.id := ⟨_, rfl⟩
      have hpm : p m = (G == 0) := by rw [HP.out, hGG]
      rw [← hGG] at HGM
      clear hGG
      by_cases hz : G = 0
      · have hpt : p m = true := by rw [hpm, hz]; rfl
        have HPM := Lib.hid hpt
        clear hpt hpm
        subst hz
        go_wp2_with (first
          | (at_lookup; refine wpList_lookup_mp _ rfl _ _ 24 rfl marks_ty rfl hM1 m.id rfl hid 0 HGM.out ?_)
          | (at_builtin; refine wpList_append_nlit rfl (.tmp 21) (.tmp 23) 23 rfl meta_ty rfl hnb1 rfl (by simp) rfl (by simp [Value.oneCell']) (by simp only [maxLen]; omega) (by omega) ?_; intro v3 w5 hnb5 ha5; have hM5 := (hM1.alloc _).ap ha5))
        go_roundw
        case rel => exact ⟨k + 1, by go_num, by omega, by rw [HFT.out, HPM.out, if_pos rfl]; exact NMs.snoc HXS.out HMA.out HX.out HA.out hnb5, hM5⟩
        case measure => simp [intOf]; omega
      · have hpm : p m = false := by rw [hpm]; simp [hz]
        have HPM := Lib.hid hpm
        have hz1 : (0 : Int) < (G : Int) := by omega
        have hz2 : ((G : Int) == 0) = false := by rw [beq_eq_false_iff_ne]; omega
        clear hpm hz
        go_wp2_with (at_lookup; refine wpList_lookup_mp _ rfl _ _ 24 rfl marks_ty rfl hM1 m.id rfl hid (G : Int) HGM.out ?_)
        go_roundw
        case rel => exact ⟨k + 1, by go_num, by omega, by rw [HFT.out, HPM.out, if_neg (by decide), List.append_nil]; exact ⟨xs, HXS.out, hnb1, HMA.out⟩, hM1⟩
        case measure => simp [intOf]; omega
    · obtain rfl : k = l.length := by omega
      have hxs := HXS.out
      rw [List.take_length, ← HLV.out] at hxs
      have HXS2 := Lib.hid hxs
      clear hxs HXS
      go_wp2_with fail
      go_ret
      exact ⟨_, rfl, xs, HXS2.out, hnb, HMA.out⟩

theorem live_asc {l : List Mt} (h : Lst l) : (live l).Pairwise (fun a b => a.id < b.id) := h.asc.filter _
theorem live_len (l : List Mt) : (live l).length ≤ l.length := List.length_filter_le _ _
theorem live_sm {l : List Mt} (h : Lst l) : ∀ m ∈ live l, Sm m := fun m hm => h.sm m (List.mem_filter.1 hm).1

set_option maxHeartbeats 4000000 in
set_option maxRecDepth 10000 in
theorem free_any (at_ : Int) (mv : Value) (l : List Mt) (b nm : Nat) (mk : Marks) (w0 w : World) (hw : Below w0.heap.size w0 w) (h : MsAt w0 w mv l) (hm : Mp w b nm mk) (hl : Lst l) (h20 : (freeU l mk).length < 20) :
    Calls Try.prog 21 #[.agg #[.int .i64 at_, mv, .map (some b)]] w (RetMs w0 w (free l mk)) := by
  have hs := fun w' (hb : Below w.heap.size w w') => live_any at_ mv l b w0 w' (below_trans hw hb) (h.below hb) hl
  have HSH := Lib.hid hs
  clear hs
  obtain ⟨A, c, rfl, hlc, hcm⟩ := h.shape
  unfold maxLen at hcm
  have hlen := live_len l
  have hlen2 := hl.len
  have HSM := Lib.hid (live_sm hl)
  have HASC := Lib.hid (freeU_asc mk hl)
  have hfr : free l mk = srt (freeU l mk) := rfl
  have HFR := Lib.hid hfr
  have hfu : freeU l mk = (live l).filter (fun x => (mk x.id).isNone) := rfl
  obtain ⟨p, hp⟩ : ∃ p : Mt → Bool, p = fun x => (mk x.id).isNone := ⟨_, rfl⟩
  rw [← hp] at hfu
  have hp2 : ∀ m : Mt, p m = (mk m.id).isNone := fun m => by rw [hp]
  have HP := Lib.hid hp2
  obtain ⟨L, hL⟩ : ∃ L, L = live l := ⟨_, rfl⟩
  obtain ⟨U, hU⟩ : ∃ U, U = freeU l mk := ⟨_, rfl⟩
  obtain ⟨R, hR⟩ : ∃ R, R = free l mk := ⟨_, rfl⟩
  rw [← hL] at HSH hfu hlen HSM
  rw [← hU] at hfu HASC HFR h20
  rw [← hR] at HFR ⊢
  have HFU := Lib.hid hfu
  clear hl hfr hfu hp hp2 hL hU hR
  go_enter Try.func21, Try.ntmps21
  go_wp2_with fail
  have hb0 := below_al w (.cells #[.int .i64 at_, .slice A l.length c, .map (some b)] 26)
  refine (HSH.out _ hb0).mono ?_
  rintro e w1 ⟨v1, rfl, hn1⟩
  have hB1 := below_trans hb0 hn1.below_
  have X1 := (Blk.new w #[.int .i64 at_, .slice A l.length c, .map (some b)] 26).below hn1.below_
  have hL1 := hn1.slice
  have hM1 := hm.below hB1
  obtain ⟨A1, k1, rfl, hk1, hkm1⟩ := hL1.shape
  unfold maxLen at hkm1
  clear hn1 hb0 h HSH hm
  go_wp2_with fail
  go_loopw [3, 11] (fun ov i wr => ∃ k : Nat, i = .int .i64 k ∧ k ≤ L.length ∧ NMs w0 w1 wr 55 ov ((L.take k).filter p)) (fun _ i _ => L.length - (intOf i).toNat)
  case atStart => exact ⟨0, rfl, Nat.zero_le _, NMs.nil (Below.refl _ _) _ _⟩
  case round =>
    obtain ⟨k, rfl, hk, hN⟩ := hrel
    obtain ⟨xs, hxs, hnb, hma⟩ := hN
    have HXS := Lib.hid hxs
    have HMA := Lib.hid hma
    have hxl : xs.length ≤ 1000 := by rw [map_len hxs]; exact Nat.le_trans (filter_take_len p L k) (by omega)
    obtain ⟨A2, c2, rfl, hc2⟩ := hnb.buf.shape
    clear hxs hma
    by_cases hgo : k < L.length
    · obtain ⟨m, hmk⟩ : ∃ m, L[k]? = some m := ⟨_, List.getElem?_eq_getElem hgo⟩
      obtain ⟨bb, o, x, rfl, _, hxm, hma, c0, c1, c2, c3, c4, c5, c6, c7⟩ := (hL1.below hnb.below).at_ hmk
      have hid : m.id.length ≤ maxLen := by
        have := (HSM.out m (List.mem_of_getElem? hmk)).id
        unfold maxLen; omega
      have HFT := Lib.hid (filter_take (p := p) hmk)
      have HX := Lib.hid hxm
      have HA := Lib.hid hma
      clear hmk hxm hma
      have hci : (0 : Int) ≤ (k : Int) := by omega
      have x2 : ∀ o, (wr.alloc o).cell? ⟨w.heap.size, 2, none⟩ = some (.map (some b)) := fun o => ((X1.below hnb.below).alloc o).cell (i := 2) rfl
      have hM2 := (hM1.below hnb.below).alloc (.cells #[.string (bs m.id), .int .i64 m.mn, .int .i64 m.mx, .int .i64 m.lv, .int .i64 m.sr, .int .i64 m.sm, .slice x.fa m.fs.length x.fc, .slice x.sa m.ss.length x.sc] 55)
      have hnb1 := hnb.alloc (.cells #[.string (bs m.id), .int .i64 m.mn, .int .i64 m.mx, .int .i64 m.lv, .int .i64 m.sr, .int .i64 m.sm, .slice x.fa m.fs.length x.fc, .slice x.sa m.ss.length x.sc] 55)
      clear hnb
      obtain ⟨z, hz⟩ : ∃ z, (mk m.id).getD 0 = z := ⟨_, rfl⟩
      obtain ⟨g, hg⟩ : ∃ g, (mk m.id).isSome = g := ⟨_, rfl⟩
      have hpm : p m = !g := by rw [HP.out, ← hg]; cases mk m.id <;> rfl
      have HZ := Lib.hid hz
      have HG := Lib.hid hg
      have HPM := Lib.hid hpm
      clear hz hg hpm
      rcases g with _ | _
      · go_wp2_with (first
          | (at_lookup; refine wpList_lookup_mp_ok _ rfl _ _ 24 rfl marks_ty rfl hM2 m.id rfl hid z HZ.out false HG.out ?_)
          | (at_builtin; refine wpList_append_nlit rfl (.tmp 25) (.tmp 27) 23 rfl meta_ty rfl hnb1 rfl (by simp) rfl (by simp [Value.oneCell']) (by simp only [maxLen]; omega) (by omega) ?_; intro v3 w5 hnb5 _))
        go_roundw
        case rel => exact ⟨k + 1, by go_num, by omega, by rw [HFT.out, HPM.out, if_pos (show (!false) = true from rfl)]; exact NMs.snoc HXS.out HMA.out HX.out HA.out hnb5⟩
        case measure => simp [intOf]; omega
      · go_wp2_with (at_lookup; refine wpList_lookup_mp_ok _ rfl _ _ 24 rfl marks_ty rfl hM2 m.id rfl hid z HZ.out true HG.out ?_)
        go_roundw
        case rel => exact ⟨k + 1, by go_num, by omega, by rw [HFT.out, HPM.out, if_neg (by decide), List.append_nil]; exact ⟨xs, HXS.out, hnb1, HMA.out⟩⟩
        case measure => simp [intOf]; omega
    · obtain rfl : k = L.length := by omega
      have hxs := HXS.out
      rw [List.take_length, ← HFU.out] at hxs
      have hN : NMs w0 w1 wr 55 (.slice A2 xs.length c2) U := ⟨xs, hxs, hnb, HMA.out⟩
      have hUl := map_len hxs
      rw [hUl] at hN
      have HUL := Lib.hid hUl
      have hc : Calls Try.prog 34 #[.slice A2 xs.length c2, .func (.func 35) #[] #[]] wr
          fun e w' => e = .returned (.tuple #[]) ∧ NMs w0 w w' 55 (.slice A2 xs.length c2) R := by
        rw [hUl, HFR.out]
        rcases Nat.eq_zero_or_pos U.length with h0 | h0
        · obtain rfl : U = [] := List.eq_nil_of_length_eq_zero h0
          refine (stableNone_any A2 c2 wr).mono ?_
          rintro e w' ⟨rfl, rfl⟩
          exact ⟨rfl, hN.after hB1⟩
        · obtain ⟨m, hm⟩ : ∃ m, U[0]? = some m := ⟨_, List.getElem?_eq_getElem h0⟩
          obtain ⟨bb, o, _, rfl, _⟩ := hN.slice.at_ hm
          refine (stable_any bb o c2 U w0 w1 wr hN h0 h20 HASC.out).mono ?_
          rintro e w' ⟨rfl, hn, _⟩
          exact ⟨rfl, hn.after hB1⟩
      have HC := Lib.hid hc
      clear hc hN hUl hxs HXS
      go_wp2_with fail
      refine HC.out.mono ?_
      rintro e w' ⟨rfl, hn⟩
      go_wp2_with fail
      go_ret
      exact ⟨_, rfl, hn⟩

set_option maxHeartbeats 1000000 in
set_option maxRecDepth 10000 in
theorem rank_any (at_ : Int) (mv : Value) (l : List Mt) (b nm : Nat) (mk : Marks) (w0 w : World) (hw : Below w0.heap.size w0 w) (h : MsAt w0 w mv l) (hm : Mp w b nm mk) (hl : Lst l) (h20 : (freeU l mk).length < 20) :
    Calls Try.prog 14 #[.agg #[.int .i64 at_, mv, .map (some b)]] w (RetBelow w (.int .i64 (rank l mk))) := by
  have hs := fun w' (hb : Below w.heap.size w w') => free_any at_ mv l b nm mk w0 w' (below_trans hw hb) (h.below hb) (hm.below hb) hl h20
  have HSH := Lib.hid hs
  have hlen : (free l mk).length ≤ 1000 := Nat.le_trans (free_length l mk) hl.len
  unfold rank
  obtain ⟨n, hn⟩ : ∃ n, n = (free l mk).length := ⟨_, rfl⟩
  rw [← hn] at hlen ⊢
  have HN := Lib.hid hn
  clear hs hl hm h20 hn
  obtain ⟨A, c, rfl, _, _⟩ := h.shape
  clear h
  by_cases hz : n = 0
  · subst hz
    go_enter Try.func14, Try.ntmps14
    go_wp2_with fail
    refine (HSH.out _ (below_al _ _)).mono ?_
    rintro e w1 ⟨v, rfl, hn⟩
    obtain ⟨A1, c1, rfl, _, _⟩ := hn.shape
    rw [← HN.out]
    go_wp2_with fail
    go_ret
    exact ⟨rfl, below_trans (below_al _ _) hn.below_⟩
  · go_enter Try.func14, Try.ntmps14
    go_wp2_with fail
    refine (HSH.out _ (below_al _ _)).mono ?_
    rintro e w1 ⟨v, rfl, hn⟩
    obtain ⟨A1, c1, rfl, _, _⟩ := hn.shape
    rw [← HN.out]
    go_wp2_with fail
    go_ret
    exact ⟨rfl, below_trans (below_al _ _) hn.below_⟩
end Go.Proofs.Ytemmgejaoegpfaa
