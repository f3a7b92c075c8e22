/-
  Layer 14: the laws' samples in memory; the walk of Table.
-/
import Derived.Test.YtgabmfibfikdbaaGreatDoorZMrgD
import Derived.Test.YtgabmfibfikdbaaGreatDoorZLib24

namespace Go.Bar.Mrg
open Go.RowKit Go.Bar Go.Bar.Xor Go.Bar.Lab

/-- a sample of a law's argument: a name, a time, a value -/
structure On3 where
  nm : Nat
  t : Int
  v : Nat
def enc3 (x : On3) : List Value := [.int .u8 (x.nm : Nat), .int .i64 x.t, .int .u64 (x.v : Nat)]
theorem enc3_len (x : On3) : (enc3 x).length = 3 := rfl
def ocs (l : List On3) : List Value := l.flatMap enc3
def O3At (w : World) (v : Value) (l : List On3) : Prop := SlAt w 3 v l.length (ocs l)
theorem O3At.below {w w' : World} {v : Value} {l : List On3} (h : O3At w v l) (hb : Below w.heap.size w w') : O3At w' v l := SlAt.below h hb
theorem O3At.shape {w : World} {v : Value} {l : List On3} (h : O3At w v l) : ∃ A c, v = .slice A l.length c ∧ l.length ≤ c ∧ c ≤ maxLen := SlAt.shape h
theorem O3At.at_ {w : World} {A : Option Addr} {n c i : Nat} {l : List On3} {x : On3} (h : O3At w (.slice A n c) l) (hi : l[i]? = some x) : ∃ b o, A = some ⟨b, o, none⟩ ∧ w.cell? ⟨b, o + i * 3, none⟩ = some (.int .u8 (x.nm : Nat)) ∧ w.cell? ⟨b, o + i * 3 + 1, none⟩ = some (.int .i64 x.t) ∧ w.cell? ⟨b, o + i * 3 + 2, none⟩ = some (.int .u64 (x.v : Nat)) := by
  have hlt : i < l.length := (List.getElem?_eq_some_iff.1 hi).1
  obtain ⟨A', c', he, _⟩ := SlAt.shape h
  injection he with e1 e2 e3
  subst e1; subst e2; subst e3
  obtain ⟨b, o, rfl, hb, hc⟩ := SlAt.cells h (by omega)
  have g := flat_get enc3 3 enc3_len l i x hi
  have g0 := hc _ _ (g 0 (by omega))
  have g1 := hc _ _ (g 1 (by omega))
  have g2 := hc _ _ (g 2 (by omega))
  exact ⟨b, o, rfl, g0, (by rw [Nat.add_assoc]; exact g1), (by rw [Nat.add_assoc]; exact g2)⟩
/-- a time within 0 .. 999 -/
def tm3 (z : Int) : Int := (z.tmod 1000 + 1000).tmod 1000
theorem tm3_rng (z : Int) : 0 ≤ tm3 z ∧ tm3 z < 1000 := by
  unfold tm3
  have h1 : -1000 < z.tmod 1000 := by have := Int.lt_tmod_of_pos z (show (0 : Int) < 1000 by decide); omega
  rw [Int.tmod_eq_emod_of_nonneg (by omega)]
  omega
def pt3 (x : On3) : Pt := (Go.Proofs.YtgabmfibfikdbaaGreatDoor.lab5 x.nm, (tm3 x.t, x.v))
theorem putS_len (l : List Sm) (s : Sm) : (putS l s).length ≤ l.length + 1 := by
  induction l with
  | nil => exact Nat.le_refl _
  | cons x r ih =>
    unfold putS
    split
    · exact Nat.le_succ _
    · split
      · exact Nat.le_refl _
      · exact Nat.succ_le_succ ih
theorem addG_bound {P : List Pr → Prop} {L : List Pr} {s : Sm} {m : Nat} (hL : P L) : ∀ (b : Bool) (l : List Row), (∀ x ∈ l, P x.1 ∧ x.2.length ≤ m) → ∀ r ∈ addG L s b l, P r.1 ∧ r.2.length ≤ m + 1
  | true, [], _ => fun r hr => by cases hr
  | false, [], _ => fun r hr => by
    obtain rfl := List.mem_singleton.1 hr
    exact ⟨hL, by simp⟩
  | true, x :: l, h => fun r hr => by
    have h1 := h x (List.mem_cons_self ..)
    have h2 := addG_bound (s := s) hL true l fun y hy => h y (List.mem_cons_of_mem _ hy)
    rcases List.mem_cons.1 (show r ∈ (if cmpL L x.1 = 0 then (x.1, putS x.2 s) else x) :: addG L s true l from hr) with e | e
    · rw [e]
      split
      · exact ⟨h1.1, Nat.le_trans (putS_len _ _) (Nat.succ_le_succ h1.2)⟩
      · exact ⟨h1.1, Nat.le_succ_of_le h1.2⟩
    · exact h2 r e
  | false, x :: l, h => fun r hr => by
    have h1 := h x (List.mem_cons_self ..)
    have h2 := addG_bound (s := s) hL true l fun y hy => h y (List.mem_cons_of_mem _ hy)
    have h3 := addG_bound (s := s) hL false l fun y hy => h y (List.mem_cons_of_mem _ hy)
    have hr : r ∈ (if cmpL L x.1 = 0 then (x.1, putS x.2 s) :: addG L s true l else if cmpL L x.1 < 0 then (L, [s]) :: x :: addG L s true l else x :: addG L s false l) := hr
    split at hr
    · rcases List.mem_cons.1 hr with e | e
      · rw [e]; exact ⟨h1.1, Nat.le_trans (putS_len _ _) (Nat.succ_le_succ h1.2)⟩
      · exact h2 r e
    · split at hr
      · rcases List.mem_cons.1 hr with e | e
        · rw [e]; exact ⟨hL, by simp⟩
        · rcases List.mem_cons.1 e with e | e
          · rw [e]; exact ⟨h1.1, Nat.le_succ_of_le h1.2⟩
          · exact h2 r e
      · rcases List.mem_cons.1 hr with e | e
        · rw [e]; exact ⟨h1.1, Nat.le_succ_of_le h1.2⟩
        · exact h3 r e
theorem addAll_bound {P : List Pr → Prop} : ∀ (xs : List Pt) (l : List Row) (m : Nat), (∀ x ∈ xs, P x.1) → (∀ x ∈ l, P x.1 ∧ x.2.length ≤ m) → ∀ r ∈ addAll l xs, P r.1 ∧ r.2.length ≤ m + xs.length
  | [], l, m, _, h => h
  | x :: xs, l, m, hx, h => fun r hr => by
    have h1 := addAll_bound xs (addR l x.1 x.2) (m + 1) (fun y hy => hx y (List.mem_cons_of_mem _ hy)) (addG_bound (hx x (List.mem_cons_self ..)) false l h) r hr
    rw [List.length_cons]
    exact ⟨h1.1, by omega⟩
/-- the table of a law's argument -/
def tab3 (l : List On3) : List Row := addAll [] ((l.take 40).map pt3)
theorem tab3_bound (xs : List On3) : (addAll [] (xs.map pt3)).length ≤ xs.length ∧ ∀ r ∈ addAll [] (xs.map pt3), r.1.length ≤ 2 ∧ r.2.length ≤ xs.length := by
  refine ⟨?_, fun r hr => ?_⟩
  · have := addAll_len (xs.map pt3) []
    simpa using this
  · have := addAll_bound (P := fun L => L.length ≤ 2) (xs.map pt3) [] 0 (fun x hx => by
      obtain ⟨y, _, rfl⟩ := List.mem_map.1 hx
      exact Go.Proofs.YtgabmfibfikdbaaGreatDoor.lab5_len y.nm) (fun x hx => by cases hx) r hr
    simpa using this
theorem tab3_tb (l : List On3) : Tb (tab3 l) := (addAll_spec _ Tb.nil).1
end Go.Bar.Mrg
namespace Go.Proofs.YtgabmfibfikdbaaGreatDoor
open Go.RowKit Go.Bar Go.Bar.Leb Go.Bar.Lab Go.Bar.Xor Go.Bar.Mrg

theorem DTb.up {B W0 W1 w : World} {T Tp : TypeId} {v : Value} {t : List Rv} (h : DTb B W0 W0 w T Tp v t) (hb : Below W1.heap.size W1 W0) : DTb B W1 W1 w T Tp v t := ⟨h.n.after hb, Below.refl _ _, fun x hx => (h.d x hx).after hb⟩
/-- what Add has laid -/
def FinAd (B w : World) (R : List Row) (vs : Nat → Value) (w' : World) : Prop := ∃ t, DTb B w w w' 62 146 (vs 13) t ∧ t.map plR = R

/-- a table, in both forms -/
def RetTwoB (B w : World) (R : List Row) (e : Ending) (w' : World) : Prop := ∃ v1 v2 t1 t2, e = .returned (.tuple #[v1, v2]) ∧ DTb B w w w' 94 128 v1 t1 ∧ DTb B w w w' 62 146 v2 t2 ∧ t1.map plR = R ∧ t2.map plR = R

set_option maxHeartbeats 8000000 in
set_option maxRecDepth 10000 in
theorem table_anyB (B : World) (v : Value) (l : List On3) (w : World) (hB : Below B.heap.size B w) (h : O3At w v l) :
    Calls Tryz.prog 21 #[v] w (RetTwoB B w (tab3 l)) := by
  obtain ⟨A, c, rfl, hlc, hcm⟩ := h.shape
  unfold maxLen at hcm
  have HT := Lib.hid h
  have HN0 : Hid (DTb B w w (w.alloc (.cells #[] 62)) 62 146 (.slice (some ⟨w.heap.size, 0, none⟩) 0 0) []) := Lib.hid ⟨NBuf.lit0 (Below.refl w.heap.size w) 62 2, Below.refl _ _, fun x hx => by cases hx⟩
  clear h
  go_enter Tryz.func21, Tryz.ntmps21
  go_wp2_with fail
  go_loopw [4, 5] (fun d i wr => ∃ (k : Nat) (O : List Rv), k ≤ l.length ∧ k ≤ 40 ∧ i = .int .i64 k ∧ Hid (DTb B w w wr 62 146 d O) ∧ Hid (O.map plR = addAll [] ((l.take k).map pt3))) (fun _ i _ => l.length - (intOf i).toNat)
  case atStart => exact ⟨0, [], Nat.zero_le _, Nat.zero_le _, rfl, HN0, Lib.hid rfl⟩
  case round =>
    obtain ⟨k, O, hk, hk2, rfl, HNB, HRR⟩ := hrel
    obtain ⟨fA, fc, rfl, hfc⟩ := HNB.out.n.buf.shape
    have hbw := HNB.out.n.below
    have hbd := tab3_bound (l.take k)
    rw [← HRR.out, List.length_map, List.length_take] at hbd
    have hxb : ∀ x ∈ O, x.ls.length ≤ 2 ∧ x.ss.length ≤ 40 := fun x hx => by
      have := hbd.2 (plR x) (List.mem_map_of_mem hx)
      exact ⟨this.1, by have h2 : x.ss.length ≤ min k l.length := this.2
                        omega⟩
    have hOl : O.length ≤ 40 := by omega
    have HXB := Lib.hid hxb
    clear HN0 hbd hxb
    by_cases hgo : k < l.length ∧ k < 40
    · obtain ⟨hgo, hg4⟩ := hgo
      obtain ⟨p, hx⟩ : ∃ p, l[k]? = some p := ⟨_, List.getElem?_eq_getElem hgo⟩
      obtain ⟨xb, xo, rfl, x0, x1, x2⟩ := (HT.out.below hbw).at_ hx
      have hrr : addR (O.map plR) (lab5 p.nm) (tm3 p.t, p.v) = addAll [] ((l.take (k + 1)).map pt3) := by
        rw [List.take_add_one, hx, List.map_append, addAll_append, ← HRR.out]; rfl
      have HR2 := Lib.hid hrr
      obtain ⟨L, hL⟩ : ∃ L, L = lab5 p.nm := ⟨_, rfl⟩
      have hll : L.length ≤ 2 := by rw [hL]; exact lab5_len _
      have hlb := labels_any p.nm
      rw [← hL] at HR2 hlb
      have HLB := Lib.hid hlb
      have htm := tm3_rng p.t
      have htr : -1000 < p.t.tmod 1000 ∧ p.t.tmod 1000 < 1000 := by
        have h1 := Int.lt_tmod_of_pos p.t (show (0 : Int) < 1000 by decide)
        have h2 := Int.tmod_lt_of_pos p.t (show (0 : Int) < 1000 by decide)
        omega
      have hw1 : IntKind.i64.wrap (p.t.tmod 1000 + 1000) = p.t.tmod 1000 + 1000 := by rw [IntKind.wrap_i64]; omega
      have hw2 : IntKind.i64.wrap (p.t.tmod 1000) = p.t.tmod 1000 := by rw [IntKind.wrap_i64]; omega
      obtain ⟨T, hT⟩ : ∃ T, T = tm3 p.t := ⟨_, rfl⟩
      have hw4 : (p.t.tmod 1000 + 1000).tmod 1000 = T := hT.symm
      rw [← hT] at HR2 htm
      clear hT
      have hw3 : IntKind.i64.wrap T = T := by rw [IntKind.wrap_i64]; omega
      clear hrr hx HRR hL hlb
      obtain ⟨n, hn⟩ : ∃ n, n = O.length := ⟨_, rfl⟩
      have HNN := Lib.hid hn
      rw [← hn] at hOl
      clear hn
      obtain ⟨wb, hwx⟩ : ∃ wb, wb = wr.alloc (.cells #[.int .u8 (p.nm : Nat), .int .i64 p.t, .int .u64 (p.v : Nat)] 137) := ⟨_, rfl⟩
      have hbx : Below wr.heap.size wr wb := by rw [hwx]; exact below_alloc1 _ _
      have HX : Hid (Blk wb wr.heap.size 137 #[.int .u8 (p.nm : Nat), .int .i64 p.t, .int .u64 (p.v : Nat)]) := Lib.hid (by rw [hwx]; exact Blk.new _ _ _)
      have HNX := Lib.hid (HNB.out.below hbx)
      have hbWx := below_trans hbw hbx
      have hk40 : (k : Int) < 40 := by omega
      go_upto_region 6 with fail
      rw [← hwx]
      obtain ⟨X, hX⟩ : ∃ X, X = wr.heap.size := ⟨_, rfl⟩
      rw [← hX] at HX ⊢
      rw [← HNN.out] at HNX ⊢
      clear hwx hX HNB hbx
      have hstT : ∀ k v w w', Below w.heap.size w w' → Dv.factOf ([(2, ((fun v => v = (.int .u8 (p.nm : Nat))), noFact, 2)), (3, ((fun v => ∃ A c, v = .slice A L.length c), (fun v w' => FBuf wb w' 128 2 v L.length (pcs L)), 13)), (4, ((fun v => ∃ A c, v = .slice A L.length c), (fun v w' => FBuf wb w' 146 2 v L.length (pcs L)), 13)), (6, ((fun v => v = (.int .i64 p.t)), noFact, 6)), (11, ((fun v => v = (.int .u64 (p.v : Nat))), noFact, 11)), (13, ((fun v => ∃ A m c, v = .slice A m c), noFact, 13))] : List (Nat × Dv.Kp)) k v w → Dv.factOf ([(2, ((fun v => v = (.int .u8 (p.nm : Nat))), noFact, 2)), (3, ((fun v => ∃ A c, v = .slice A L.length c), (fun v w' => FBuf wb w' 128 2 v L.length (pcs L)), 13)), (4, ((fun v => ∃ A c, v = .slice A L.length c), (fun v w' => FBuf wb w' 146 2 v L.length (pcs L)), 13)), (6, ((fun v => v = (.int .i64 p.t)), noFact, 6)), (11, ((fun v => v = (.int .u64 (p.v : Nat))), noFact, 11)), (13, ((fun v => ∃ A m c, v = .slice A m c), noFact, 13))] : List (Nat × Dv.Kp)) k v w' := Dv.fact_st (by
        simp only [List.forall_mem_cons, List.not_mem_nil, false_imp_iff, implies_true, and_true]
        refine ⟨?_, ?_, ?_, ?_, ?_, ?_⟩
        · exact fun _ _ _ _ _ => trivial
        · exact fun _ _ _ hb h => h.below hb
        · exact fun _ _ _ hb h => h.below hb
        · exact fun _ _ _ _ _ => trivial
        · exact fun _ _ _ _ _ => trivial
        · exact fun _ _ _ _ _ => trivial)
      have htrT : ∀ x ∈ ([(2, ((fun v => v = (.int .u8 (p.nm : Nat))), noFact, 2)), (3, ((fun v => ∃ A c, v = .slice A L.length c), (fun v w' => FBuf wb w' 128 2 v L.length (pcs L)), 13)), (4, ((fun v => ∃ A c, v = .slice A L.length c), (fun v w' => FBuf wb w' 146 2 v L.length (pcs L)), 13)), (6, ((fun v => v = (.int .i64 p.t)), noFact, 6)), (11, ((fun v => v = (.int .u64 (p.v : Nat))), noFact, 11)), (13, ((fun v => ∃ A m c, v = .slice A m c), noFact, 13))] : List (Nat × Dv.Kp)), (([(2, ((fun v => v = (.int .u8 (p.nm : Nat))), noFact, 2)), (3, ((fun v => ∃ A c, v = .slice A L.length c), (fun v w' => FBuf wb w' 128 2 v L.length (pcs L)), 13)), (4, ((fun v => ∃ A c, v = .slice A L.length c), (fun v w' => FBuf wb w' 146 2 v L.length (pcs L)), 13)), (6, ((fun v => v = (.int .i64 p.t)), noFact, 6)), (11, ((fun v => v = (.int .u64 (p.v : Nat))), noFact, 11)), (13, ((fun v => ∃ A m c, v = .slice A m c), noFact, 13))] : List (Nat × Dv.Kp)).lookup x.2.2.2).isSome = true := by
        simp only [List.forall_mem_cons, List.not_mem_nil, false_imp_iff, implies_true, and_true]
        exact ⟨by kernel_rfl, by kernel_rfl, by kernel_rfl, by kernel_rfl, by kernel_rfl, by kernel_rfl⟩
      refine Dv.wp_region_two (L := ([(2, ((fun v => v = (.int .u8 (p.nm : Nat))), noFact, 2)), (3, ((fun v => ∃ A c, v = .slice A L.length c), (fun v w' => FBuf wb w' 128 2 v L.length (pcs L)), 13)), (4, ((fun v => ∃ A c, v = .slice A L.length c), (fun v w' => FBuf wb w' 146 2 v L.length (pcs L)), 13)), (6, ((fun v => v = (.int .i64 p.t)), noFact, 6)), (11, ((fun v => v = (.int .u64 (p.v : Nat))), noFact, 11)), (13, ((fun v => ∃ A m c, v = .slice A m c), noFact, 13))] : List (Nat × Dv.Kp))) (m := 13) (Fin := (FinAd B w (addR (O.map plR) L (T, p.v)))) (by kernel_rfl) 39 (by kernel_rfl) rfl (by kernel_rfl) ?_ ?_ ?_
      · simp only [List.forall_mem_cons, List.not_mem_nil, false_imp_iff, implies_true, and_true]
        exact ⟨⟨_, rfl⟩, ⟨_, none, 0, rfl⟩, ⟨_, none, 0, rfl⟩, ⟨_, rfl⟩, ⟨_, rfl⟩, ⟨_, none, 0, 0, rfl⟩⟩
      · exact (fun vs vs' w' h hf => by unfold FinAd at hf ⊢; rw [← h 13 (by kernel_rfl) (by decide)]; exact hf)
      repeat (first
        | (refine Dv.Chain.step (v := ?_) (a' := ?_) rfl rfl rfl ?_ ?_ ?_
           rotate_left 2
           focus (intro w; go_simp; try with_reducible rfl)
           focus (simp only [Act.put, List.setIfInBounds_toArray, List.set_cons_succ, List.set_cons_zero]; try rfl))
        | (refine Dv.Chain.skip' (a' := ?_) rfl rfl rfl ?_ ?_
           rotate_left 1
           focus (simp only [Act.put, List.setIfInBounds_toArray, List.set_cons_succ, List.set_cons_zero]; try rfl)))
      refine Dv.XT.call (a' := ?_) _ _ rfl (by decide) hstT rfl rfl (fun wx hw hF => ?_) htrT ?_ ?_
      rotate_left 1
      focus
        obtain ⟨g0, g1, g2⟩ := Blk.c3 (HX.out.below hw); go_simp; first | exact ⟨rfl, Below.refl _ _⟩ | exact Below.refl _ _
      focus (simp only [Act.put, List.setIfInBounds_toArray, List.set_cons_succ, List.set_cons_zero]; try rfl)
      repeat (first
        | (refine Dv.Chain.step (v := ?_) (a' := ?_) rfl rfl rfl ?_ ?_ ?_
           rotate_left 2
           focus (intro w; go_simp; try with_reducible rfl)
           focus (simp only [Act.put, List.setIfInBounds_toArray, List.set_cons_succ, List.set_cons_zero]; try rfl))
        | (refine Dv.Chain.skip' (a' := ?_) rfl rfl rfl ?_ ?_
           rotate_left 1
           focus (simp only [Act.put, List.setIfInBounds_toArray, List.set_cons_succ, List.set_cons_zero]; try rfl)))
      refine Dv.XT.make _ _ _ rfl (by decide) hstT rfl rfl (fun wx hw hF => ?_) htrT (fun v3 hv3 a' ha => ?_)
      focus
        go_simp
        with_reducible refine (HLB.out _).mono ?_
        rintro e w' ⟨v, rfl, hnb⟩
        obtain ⟨A, c, rfl, _⟩ := hnb.buf.shape
        exact ⟨⟨A, c, rfl⟩, hnb.below, hnb.buf, fun k hk => Nat.le_trans hw.size (hnb.new k hk)⟩
      obtain ⟨A3, c3, rfl⟩ := hv3
      simp only [Act.put, List.setIfInBounds_toArray, List.set_cons_succ, List.set_cons_zero] at ha
      subst ha
      repeat (first
        | (refine Dv.Chain.step (v := ?_) (a' := ?_) rfl rfl rfl ?_ ?_ ?_
           rotate_left 2
           focus (intro w; go_simp; try with_reducible rfl)
           focus (simp only [Act.put, List.setIfInBounds_toArray, List.set_cons_succ, List.set_cons_zero]; try rfl))
        | (refine Dv.Chain.skip' (a' := ?_) rfl rfl rfl ?_ ?_
           rotate_left 1
           focus (simp only [Act.put, List.setIfInBounds_toArray, List.set_cons_succ, List.set_cons_zero]; try rfl)))
      refine Dv.XT.make _ _ _ rfl (by decide) hstT rfl rfl (fun wx hw hF => ?_) htrT (fun v4 hv4 a' ha => ?_)
      focus
        have f3 : (fun v w' => FBuf wb w' 128 2 v L.length (pcs L) : Value → World → Prop) _ wx := hF 3 _ (by kernel_rfl) rfl (by kernel_rfl)
        have h3 : PsAt wx (.slice A3 L.length c3) L := f3.slice
        go_simp
        with_reducible refine (told_any6 _ L _ h3 (by omega)).mono ?_
        rintro e w' ⟨v, rfl, hnb⟩
        obtain ⟨A, c, rfl, _⟩ := hnb.buf.shape
        exact ⟨⟨A, c, rfl⟩, hnb.below, hnb.buf, fun k hk => Nat.le_trans hw.size (hnb.new k hk)⟩
      obtain ⟨A4, c4, rfl⟩ := hv4
      simp only [Act.put, List.setIfInBounds_toArray, List.set_cons_succ, List.set_cons_zero] at ha
      subst ha
      repeat (first
        | (refine Dv.Chain.step (v := ?_) (a' := ?_) rfl rfl rfl ?_ ?_ ?_
           rotate_left 2
           focus (intro w; go_simp; try with_reducible rfl)
           focus (simp only [Act.put, List.setIfInBounds_toArray, List.set_cons_succ, List.set_cons_zero]; try rfl))
        | (refine Dv.Chain.skip' (a' := ?_) rfl rfl rfl ?_ ?_
           rotate_left 1
           focus (simp only [Act.put, List.setIfInBounds_toArray, List.set_cons_succ, List.set_cons_zero]; try rfl)))
      refine Dv.XT.call (a' := ?_) _ _ rfl (by decide) hstT rfl rfl (fun wx hw hF => ?_) htrT ?_ ?_
      rotate_left 1
      focus
        obtain ⟨g0, g1, g2⟩ := Blk.c3 (HX.out.below hw); go_simp; first | exact ⟨rfl, Below.refl _ _⟩ | exact Below.refl _ _
      focus (simp only [Act.put, List.setIfInBounds_toArray, List.set_cons_succ, List.set_cons_zero]; try rfl)
      repeat (first
        | (refine Dv.Chain.step (v := ?_) (a' := ?_) rfl rfl rfl ?_ ?_ ?_
           rotate_left 2
           focus (intro w; go_simp; try with_reducible rfl)
           focus (simp only [Act.put, List.setIfInBounds_toArray, List.set_cons_succ, List.set_cons_zero]; try rfl))
        | (refine Dv.Chain.skip' (a' := ?_) rfl rfl rfl ?_ ?_
           rotate_left 1
           focus (simp only [Act.put, List.setIfInBounds_toArray, List.set_cons_succ, List.set_cons_zero]; try rfl)))
      refine Dv.XT.call (a' := ?_) _ _ rfl (by decide) hstT rfl rfl (fun wx hw hF => ?_) htrT ?_ ?_
      rotate_left 1
      focus
        obtain ⟨g0, g1, g2⟩ := Blk.c3 (HX.out.below hw); go_simp; first | exact ⟨rfl, Below.refl _ _⟩ | exact Below.refl _ _
      focus (simp only [Act.put, List.setIfInBounds_toArray, List.set_cons_succ, List.set_cons_zero]; try rfl)
      repeat (first
        | (refine Dv.Chain.step (v := ?_) (a' := ?_) rfl rfl rfl ?_ ?_ ?_
           rotate_left 2
           focus (intro w; go_simp; try with_reducible rfl)
           focus (simp only [Act.put, List.setIfInBounds_toArray, List.set_cons_succ, List.set_cons_zero]; try rfl))
        | (refine Dv.Chain.skip' (a' := ?_) rfl rfl rfl ?_ ?_
           rotate_left 1
           focus (simp only [Act.put, List.setIfInBounds_toArray, List.set_cons_succ, List.set_cons_zero]; try rfl)))
      refine Dv.XT.last _ _ _ rfl rfl (by kernel_rfl) rfl rfl (fun vs wx hw hF => ?_) (fun v13 hv13 a' ha => ?_)
      focus
        have f4 : (fun v w' => FBuf wb w' 146 2 v L.length (pcs L) : Value → World → Prop) _ wx := (hF 4 _ (by kernel_rfl) rfl).1 (by kernel_rfl)
        have q4 := (hF 4 _ (by kernel_rfl) rfl).2
        have h4 : PsAt wx (.slice A4 L.length c4) L := f4.slice
        go_simp
        have hd := HNX.out.below hw
        have hbw2 := below_trans hbWx hw
        with_reducible refine (radd_any B w _ _ O L (T, p.v) wx (hd.rtb hB).tb h4 hbw2 hd.d (.inr ⟨f4.buf, hbw2, fun k hk => Nat.le_trans hbWx.size (f4.new k hk)⟩) (by have := HNN.out; omega) (fun y hy => by have := HXB.out y hy; omega)).mono ?_
        rintro e w' ⟨v, t', rfl, hdt, hmp⟩
        obtain ⟨A6, c6, rfl, _⟩ := hdt.n.buf.shape
        refine ⟨⟨_, _, _, rfl⟩, t', ?_, hmp⟩
        rw [Dv.updV_self]
        exact hdt.after hbw2 (Below.refl _ _)
      obtain ⟨A5, m5, c5, rfl⟩ := hv13
      simp only [Act.put, List.setIfInBounds_toArray, List.set_cons_succ, List.set_cons_zero] at ha
      subst ha
      repeat (first
        | (refine Dv.Chain.step (v := ?_) (a' := ?_) rfl rfl rfl ?_ ?_ ?_
           rotate_left 2
           focus (intro w; go_simp; try with_reducible rfl)
           focus (simp only [Act.put, List.setIfInBounds_toArray, List.set_cons_succ, List.set_cons_zero]; try rfl))
        | (refine Dv.Chain.skip' (a' := ?_) rfl rfl rfl ?_ ?_
           rotate_left 1
           focus (simp only [Act.put, List.setIfInBounds_toArray, List.set_cons_succ, List.set_cons_zero]; try rfl)))
      refine Dv.XT.end_ (by decide) (fun vs w10 hv hfin => ?_)
      obtain ⟨t', hd', hm'⟩ := hfin
      rw [hv 13 _ rfl] at hd'
      have HD := Lib.hid hd'
      have HM := Lib.hid (hm'.trans HR2.out)
      clear hd' hm' hv HNX HX HR2 HLB
      go_wp2_with fail
      go_roundw
      case rel => exact ⟨k + 1, t', by omega, by omega, by go_num, HD, HM⟩
      case measure => simp [intOf]; omega
    · have hend : l.take k = l.take 40 := by
        rcases Nat.lt_or_ge k 40 with h1 | h1
        · rw [List.take_of_length_le (by omega), List.take_of_length_le (by omega)]
        · obtain rfl : k = 40 := by omega
          rfl
      have hrr := HRR.out
      rw [hend] at hrr
      have hrr : O.map plR = tab3 l := hrr
      obtain ⟨n, hn⟩ : ∃ n, n = O.length := ⟨_, rfl⟩
      have HNN := Lib.hid hn
      have HR3 := Lib.hid hrr
      have hrw := rows14_any B (.slice fA O.length fc) O wr (HNB.out.rtb hB).tb (by omega) (fun y hy => by have := HXB.out y hy; omega)
      rw [hrr] at hrw
      rw [← hn] at hOl hrw ⊢
      have HRW := Lib.hid hrw
      clear hrr hend HRR hrw hn
      have hcase : (k : Int) = (l.length : Int) ∨ ((k : Int) < (l.length : Int) ∧ (40 : Int) ≤ (k : Int)) := by omega
      rcases hcase with h1 | ⟨h1, h2⟩
      case' inl => have h3 : (l.length : Int) ≤ (k : Int) := by omega
      case' inl => clear h1
      all_goals
        go_wp2_with fail
        refine HRW.out.mono ?_
        rintro e w5 ⟨v5, t5, rfl, hd5, hm5⟩
        have HD5 := Lib.hid (And.intro hd5 hm5)
        clear hd5 hm5
        go_wp2_with fail
        go_ret2
        have hnb := HNB.out
        rw [← HNN.out] at hnb
        exact ⟨_, _, t5, O, rfl, HD5.out.1.up hbw, hnb.below HD5.out.1.n.below, HD5.out.2, HR3.out⟩

/-- a table, in both forms -/
def RetTwo (w : World) (R : List Row) : Ending → World → Prop := RetTwoB w w R
theorem table_any (v : Value) (l : List On3) (w : World) (h : O3At w v l) : Calls Tryz.prog 21 #[v] w (RetTwo w (tab3 l)) := table_anyB w v l w (Below.refl _ _) h
end Go.Proofs.YtgabmfibfikdbaaGreatDoor
