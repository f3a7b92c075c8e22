/-
  Layer 14: tables of few and small tables; the laws' awake.
-/
import Derived.Test.YtfimalbdlepfnaaDoorZMrgQ
import Derived.Test.YtfimalbdlepfnaaDoorZMrgD
import Derived.Test.YtfimalbdlepfnaaDoorZMrgA
import Derived.Test.YtfimalbdlepfnaaDoorZMrgAA

namespace Go.Proofs.YtfimalbdlepfnaaDoor
open Go.RowKit Go.Bar Go.Bar.Leb Go.Bar.Lab Go.Bar.Xor Go.Bar.Mrg

theorem tot_append (a b : List Ev) : tot (a ++ b) = tot a + tot b := by unfold tot; rw [List.map_append, List.sum_append]
theorem evsK_small {m p : Nat} : ∀ {ls : List (List Row)} {k : Nat}, (∀ R ∈ ls, R.length ≤ m ∧ ∀ r ∈ R, r.2.length ≤ p) → (evsK k ls).length ≤ ls.length * m ∧ tot (evsK k ls) ≤ ls.length * m * p
  | [], k, _ => by simp [evsK, tot]
  | R :: ls, k, h => by
    obtain ⟨h1, h2⟩ := evsK_small (k := k + 1) fun X hX => h X (List.mem_cons_of_mem _ hX)
    obtain ⟨r1, r2⟩ := h R (List.mem_cons_self ..)
    have e : evsK k (R :: ls) = R.map (fun x => (x, k)) ++ evsK (k + 1) ls := rfl
    have ht : tot (R.map (fun x => (x, k))) ≤ R.length * p := by
      clear r1 e h h1 h2
      induction R with
      | nil => simp [tot]
      | cons r R ih =>
        have i1 := ih fun x hx => r2 x (List.mem_cons_of_mem _ hx)
        have i2 := r2 r (List.mem_cons_self ..)
        have e : tot ((r :: R).map (fun x => (x, k))) = r.2.length + tot (R.map (fun x => (x, k))) := by unfold tot; rfl
        rw [e, List.length_cons, Nat.add_mul]
        omega
    rw [e, List.length_append, tot_append, List.length_map, List.length_cons, Nat.add_mul, Nat.one_mul, Nat.add_mul]
    have h3 : R.length * p ≤ m * p := Nat.mul_le_mul_right _ r1
    exact ⟨by omega, by omega⟩
theorem tables_of (v : Value) (tv : List (List Rv)) (w : World) (h : TsAt w v tv) (hr : ∀ t ∈ tv, Rls (t.map plR)) (q m p : Nat) (hq : tv.length ≤ q) (hm : ∀ t ∈ tv, t.length ≤ m ∧ ∀ x ∈ t, x.ls.length ≤ 1000000 ∧ x.ss.length ≤ p) (h0 : q ≤ 1000) (h1 : q * m ≤ 1000000) (h2 : q * m * p ≤ 10000000) :
    Calls Tryd.prog 15 #[v] w (RetTab w tv) := by
  have hs := evsK_small (m := m) (p := p) (ls := plT tv) (k := 0) fun R hR => by
    obtain ⟨t, ht, rfl⟩ := List.mem_map.1 hR
    refine ⟨by rw [List.length_map]; exact (hm t ht).1, fun r hr => ?_⟩
    obtain ⟨x, hx, rfl⟩ := List.mem_map.1 hr
    exact ((hm t ht).2 x hx).2
  have hl : (plT tv).length = tv.length := by unfold plT; rw [List.length_map]
  rw [hl] at hs
  have a1 : tv.length * m ≤ q * m := Nat.mul_le_mul_right _ hq
  have a2 : tv.length * m * p ≤ q * m * p := Nat.mul_le_mul_right _ a1
  exact tables_any v tv w h (by omega) (by unfold evs; omega) (by unfold evs; omega) hr fun t ht x hx => ((hm t ht).2 x hx).1
theorem TsAt.lit {w : World} (T : TypeId) (vs : List Value) (tv : List (List Rv)) (n : Nat) (hn : tv.length = n) (hl : vs.length = n) (hk : n ≤ maxLen) (h : ∀ (i : Nat) (t : List Rv), tv[i]? = some t → ∃ A c, vs[i]? = some (.slice A t.length c) ∧ TbAt w (.slice A t.length c) t) : TsAt (w.alloc (.cells vs.toArray T)) (.slice (some ⟨w.heap.size, 0, none⟩) n n) tv := by
  subst hn
  refine ⟨vs, hl, SlAt.of_buf (Buf.lit w T 1 tv.length vs (by omega) hk), fun i t ht => ?_⟩
  obtain ⟨A, c, e, hb⟩ := h i t ht
  exact ⟨A, c, e, hb.below (below_alloc1 _ _)⟩
theorem tabs_lab5 {t : List Rv} {R : List Row} {l : List On3} (h : t.map plR = R) (hR : R = tab3 l) : t.length ≤ 40 ∧ ∀ x ∈ t, x.ls.length ≤ 2 ∧ x.ss.length ≤ 40 := by
  obtain ⟨h1, h2⟩ := tab3_bound (l.take 40)
  have e : addAll [] ((l.take 40).map pt3) = t.map plR := by rw [h, hR]; rfl
  rw [e, List.length_map, List.length_take] at h1
  rw [e, List.length_take] at h2
  refine ⟨by omega, fun x hx => ?_⟩
  have := h2 (plR x) (List.mem_map_of_mem hx)
  exact ⟨this.1, by have h3 : x.ss.length ≤ min 40 l.length := this.2
                    omega⟩
def awA : List On3 := [⟨0, 10, 1⟩, ⟨0, 20, 1⟩]
def awB : List On3 := [⟨0, 20, 1⟩, ⟨0, 30, 1⟩, ⟨3, 5, 1⟩]
theorem aw_two {t1 t2 t3 : List Rv} (h1 : t1.map plR = tab3 awA) (h2 : t2.map plR = tab3 awB) (h : FinTab [t1, t2] t3) : ∃ x y, t3 = [x, y] ∧ x.ss.length = 3 ∧ y.ss.length = 1 ∧ cntR (t3.map plR) = 4 := by
  have h3 := want_tabs h.tabs (ls := plT [t1, t2]) (by
    show ∀ x ∈ [t1.map plR, t2.map plR], Tb x
    rw [h1, h2]
    exact all2 (tab3_tb _) (tab3_tb _))
  have e : addAll [] ((plT [t1, t2]).flatMap ptsOf) = [(lab5 0, [(10, 1), (20, 1), (30, 1)]), (lab5 3, [(5, 1)])] := by
    show addAll [] ([t1.map plR, t2.map plR].flatMap ptsOf) = _
    rw [h1, h2]
    decide +kernel
  rw [e] at h3
  rcases t3 with _ | ⟨x, _ | ⟨y, _ | ⟨z, r⟩⟩⟩
  · cases h3
  · simp at h3
  · have hx : plR x = (lab5 0, [(10, 1), (20, 1), (30, 1)]) := by simp at h3; exact h3.1
    have hy : plR y = (lab5 3, [(5, 1)]) := by simp at h3; exact h3.2
    refine ⟨x, y, rfl, ?_, ?_, ?_⟩
    · rw [show x.ss = (plR x).2 from rfl, hx]; rfl
    · rw [show y.ss = (plR y).2 from rfl, hy]; rfl
    · rw [h3]; rfl
  · simp at h3

set_option maxHeartbeats 8000000 in
set_option maxRecDepth 10000 in
theorem awake14_any (w : World) : Calls Tryd.prog 11 #[] w (RetBelow w (.bool true)) := by
  have hA : ∀ w0 : World, O3At (w0.alloc (.cells (ocs awA).toArray 29)) (.slice (some ⟨w0.heap.size, 0, none⟩) 2 2) awA := fun w0 => (nbuf_lit (Below.refl w0.heap.size w0) 29 3 2 (ocs awA) rfl (by decide)).slice
  have hB : ∀ w0 : World, O3At (w0.alloc (.cells (ocs awB).toArray 29)) (.slice (some ⟨w0.heap.size, 0, none⟩) 3 3) awB := fun w0 => (nbuf_lit (Below.refl w0.heap.size w0) 29 3 3 (ocs awB) rfl (by decide)).slice
  have HA := Lib.hid (fun w0 : World => table_any (.slice (some ⟨w0.heap.size, 0, none⟩) 2 2) awA (w0.alloc (.cells (ocs awA).toArray 29)) (hA w0))
  have HB := Lib.hid (fun w0 : World => table_any (.slice (some ⟨w0.heap.size, 0, none⟩) 3 3) awB (w0.alloc (.cells (ocs awB).toArray 29)) (hB w0))
  clear hA hB
  go_enter Tryd.func11, Tryd.ntmps11
  go_wp2_with fail
  refine (HA.out _).mono ?_
  rintro e w1 ⟨v1, u1, t1, s1, rfl, d1, _, m1, _⟩
  have D1 := Lib.hid (And.intro (d1.rtb (Below.refl _ _)).tb (And.intro m1 (d1.n.after (below_alloc1 _ _)).below))
  clear d1 m1
  go_wp2_with fail
  refine (HB.out _).mono ?_
  rintro e w2 ⟨v2, u2, t2, s2, rfl, d2, _, m2, _⟩
  have D2 := Lib.hid (And.intro (d2.rtb (Below.refl _ _)).tb (And.intro m2 (d2.n.after (below_alloc1 _ _)).below))
  clear d2 m2
  obtain ⟨A1, c1, rfl, _⟩ := D1.out.1.shape
  obtain ⟨A2, c2, rfl, _⟩ := D2.out.1.shape
  have htb := TsAt.lit (w := w2) 35 [.slice A1 t1.length c1, .slice A2 t2.length c2] [t1, t2] 2 rfl rfl (by decide) (fun i t ht => by
    rcases i with _ | _ | i
    · obtain rfl : t1 = t := by simpa using ht
      exact ⟨A1, c1, rfl, D1.out.1.below D2.out.2.2⟩
    · obtain rfl : t2 = t := by simpa using ht
      exact ⟨A2, c2, rfl, D2.out.1⟩
    · simp at ht)
  have hm1 := tabs_lab5 D1.out.2.1 rfl
  have hm2 := tabs_lab5 D2.out.2.1 rfl
  have htv := tables_of _ [t1, t2] _ htb (all2 (by rw [D1.out.2.1]; exact (tab3_tb _).rls) (by rw [D2.out.2.1]; exact (tab3_tb _).rls)) 2 40 40 (Nat.le_refl _) (all2 ⟨hm1.1, fun x hx => ⟨by have := (hm1.2 x hx).1; omega, (hm1.2 x hx).2⟩⟩ ⟨hm2.1, fun x hx => ⟨by have := (hm2.2 x hx).1; omega, (hm2.2 x hx).2⟩⟩) (by decide) (by decide) (by decide)
  have HTV := Lib.hid htv
  clear htb htv hm1 hm2
  go_wp2_with fail
  refine HTV.out.mono ?_
  rintro e w3 ⟨v3, t3, rfl, hb3, ht3, hf3⟩
  obtain ⟨x, y, rfl, hx, hy, hc⟩ := aw_two D1.out.2.1 D2.out.2.1 hf3
  obtain ⟨A3, c3, rfl, _, hcm3⟩ := ht3.shape
  obtain ⟨b, o, rfl, p0, p1, _⟩ := ht3.at_ (i := 0) rfl
  obtain ⟨q0, q1, _⟩ := ht3.at2 (i := 1) rfl
  have hcn := mcount_any _ _ w3 ht3 (by rw [hc]; decide)
  rw [hc] at hcn
  have HCN := Lib.hid hcn
  have HB3 := Lib.hid (below_trans D1.out.2.2 (below_trans D2.out.2.2 (below_trans (below_alloc1 _ _) hb3)))
  rw [hx] at p1
  rw [hy] at q1
  clear hcn hx hy hc ht3 hf3 hb3 HTV HA HB
  go_wp2_with fail
  refine HCN.out.mono ?_
  rintro e w4 ⟨rfl, hb4⟩
  have HB4 := Lib.hid (below_trans HB3.out hb4)
  clear hb4 HCN
  go_wp2_with fail
  go_ret
  exact ⟨rfl, HB4.out⟩
end Go.Proofs.YtfimalbdlepfnaaDoor
