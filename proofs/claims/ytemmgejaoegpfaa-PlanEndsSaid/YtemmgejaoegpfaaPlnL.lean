/-
  Layer 20: the laws' common parts: an argument of blocks; the width; awake.
-/
import Derived.Test.YtemmgejaoegpfaaPlnK
import Derived.Test.YtemmgejaoegpfaaPlnH
import Derived.Test.YtemmgejaoegpfaaLib2
namespace Go.Proofs.Ytemmgejaoegpfaa
open Go.RowKit Go.Bar Go.Bar.Leb Go.Bar.Frm Go.Bar.Idt Go.Bar.Met Go.Bar.Pln

theorem law_own : ownKnob Try.prog.godebug = none := by kernel_rfl
theorem law_laid : laidOutB Try.prog = true := by kernel_rfl

set_option maxRecDepth 100000 in
open Go.ChangeShapes Go.WideShapes Go.Deep in
theorem open_ones {H : Type} {enc : TypeId × Value → H} {W : World} {base b0 : Nat} {spare : Nat → Bool} {held : Bool} {r : Reach} {v : Value} {d : DataW H} {p : List MemPlace} (hval : Value.okWide Try.prog W r b0 22 v)
    (h : DataW.Trod enc Try.prog W base spare held 22 v d p) : ∃ l : List On, OnsAt W v l := by
  obtain ⟨A, n, c, rfl, hnc, hcm, hx⟩ := open_slice_fields Try.underlying22 Try.underlying64 (by kernel_rfl) (by kernel_rfl) (Nat.zero_lt_succ 4 : 0 < 5) hval h
  rcases Nat.eq_zero_or_pos n with h0 | h0
  · subst h0
    exact ⟨[], ⟨rfl, A, c, rfl, hnc, hcm, fun h => absurd h (by simp)⟩⟩
  · obtain ⟨b, o, rfl, hb, hf⟩ := hx h0
    obtain ⟨rs, hl, ht⟩ := list_of (fun i (x : On) => ∀ j u, (encO x)[j]? = some u → W.cell? ⟨b, o + (i * 5 + j), none⟩ = some u) n (fun i hi => by
      obtain ⟨x0, y0, k0, c0, t0⟩ := hf i hi 0 _ rfl
      obtain ⟨x1, y1, k1, c1, t1⟩ := hf i hi 1 _ rfl
      obtain ⟨x2, y2, k2, c2, t2⟩ := hf i hi 2 _ rfl
      obtain ⟨x3, y3, k3, c3, t3⟩ := hf i hi 3 _ rfl
      obtain ⟨x4, y4, k4, c4, t4⟩ := hf i hi 4 _ rfl
      obtain ⟨n0, e0, _, w0⟩ := DataW.trod_int Try.underlying3 t0
      obtain ⟨n1, e1, _, w1⟩ := DataW.trod_int Try.underlying3 t1
      obtain ⟨n2, e2, _, w2⟩ := DataW.trod_int Try.underlying3 t2
      obtain ⟨n3, e3, _, w3⟩ := DataW.trod_int Try.underlying3 t3
      obtain ⟨n4, e4, _⟩ := DataW.trod_bool Try.underlying4 t4
      replace e0 : x0 = _ := (List.cons.inj e0).1
      replace e1 : x1 = _ := (List.cons.inj e1).1
      replace e2 : x2 = _ := (List.cons.inj e2).1
      replace e3 : x3 = _ := (List.cons.inj e3).1
      replace e4 : x4 = _ := (List.cons.inj e4).1
      subst e0; subst e1; subst e2; subst e3; subst e4
      refine ⟨⟨n0, n1, n2, n3, n4⟩, fun j u hu => ?_⟩
      match j, hu with
      | 0, hu => simp [encO] at hu; subst hu; exact c0
      | 1, hu => simp [encO] at hu; subst hu; exact c1
      | 2, hu => simp [encO] at hu; subst hu; exact c2
      | 3, hu => simp [encO] at hu; subst hu; exact c3
      | 4, hu => simp [encO] at hu; subst hu; exact c4
      | j + 5, hu => simp [encO] at hu)
    refine ⟨rs, ⟨flat_length encO 5 encO_five rs, some ⟨b, o, none⟩, c, by rw [hl], by rw [hl]; exact hnc, hcm, fun _ => ⟨b, o, rfl, hb, fun j hj => ?_⟩⟩⟩
    have hlt : j / 5 < rs.length := by omega
    have hg := List.getElem?_eq_getElem hlt
    have h1 := flat_get encO 5 encO_five rs (j / 5) _ hg (j % 5) (by omega)
    rw [show j / 5 * 5 + j % 5 = j by omega] at h1
    have hm5 : j % 5 < (encO rs[j / 5]).length := by rw [encO_five]; exact Nat.mod_lt _ (by omega)
    obtain ⟨u, hu⟩ : ∃ u, (encO rs[j / 5])[j % 5]? = some u := ⟨_, List.getElem?_eq_getElem hm5⟩
    have h2 := ht (j / 5) _ hg (j % 5) u hu
    rw [show j / 5 * 5 + j % 5 = j by omega] at h2
    rw [h2, h1, hu]

/-- a width that the laws take -/
def wdOf (z : Int) : Int := 1 + ((z.tmod 1000 + 1000).tmod 1000)
theorem wdOf_rng (z : Int) : 1 ≤ wdOf z ∧ wdOf z ≤ 1000 := by
  unfold wdOf
  have h1 := Int.natAbs_tmod z 1000
  have h2 := Nat.mod_lt z.natAbs (show 0 < (1000 : Int).natAbs by decide)
  have h3 : 0 ≤ z.tmod 1000 + 1000 := by
    have : (z.tmod 1000).natAbs < 1000 := by rw [h1]; exact h2
    omega
  rw [Int.tmod_eq_emod_of_nonneg h3]
  omega
theorem tmod_small (z : Int) : -1000 < z.tmod 1000 ∧ z.tmod 1000 < 1000 := by
  have h1 := Int.natAbs_tmod z 1000
  have h2 := Nat.mod_lt z.natAbs (show 0 < (1000 : Int).natAbs by decide)
  have : (z.tmod 1000).natAbs < 1000 := by rw [h1]; exact h2
  omega

theorem freeU_len (l : List Mt) (mk : Marks) : (freeU l mk).length ≤ l.length := Nat.le_trans (List.length_filter_le _ _) (List.length_filter_le _ _)

/-- the blocks of awake -/
def aw : List On := [⟨0, 0, 0, 0, false⟩, ⟨1, 0, 0, 0, false⟩, ⟨8, 0, 0, 0, false⟩]
theorem aw_next : (next (mkL 10 aw) (mkF aw) 10).map (fun p => (p.fr, p.to_, p.lv, p.ms.length)) = some (0, 20, 2, 2) := by decide +kernel
theorem aw_rank : rank (mkL 10 aw) (mkF aw) = 2 := by decide +kernel
theorem aw_mark : toMark (mkL 10 aw) (mkF aw) = [] := by decide +kernel
theorem aw_free : (freeU (mkL 10 aw) (mkF aw)).length < 20 := by decide +kernel

set_option maxHeartbeats 4000000 in
set_option maxRecDepth 10000 in
theorem awake_any (w : World) : Calls Try.prog 10 #[] w (RetBelow w (.bool true)) := by
  have hb := Buf.lit w 64 5 3 (aw.flatMap encO) rfl (by decide)
  have hl := listing_any (.slice (some ⟨w.heap.size, 0, none⟩) 3 3) aw 10 (w.alloc (.cells #[.int .i64 0, .int .i64 0, .int .i64 0, .int .i64 0, .bool false, .int .i64 1, .int .i64 0, .int .i64 0, .int .i64 0, .bool false, .int .i64 8, .int .i64 0, .int .i64 0, .int .i64 0, .bool false] 64)) (SlAt.of_buf hb) (by decide) (by decide)
  have HL := Lib.hid hl
  clear hl hb
  go_enter Try.func10, Try.ntmps10
  go_wp2_with fail
  refine HL.out.mono ?_
  rintro e w1 ⟨v, tv, rfl, hli, hbl, hb1⟩
  have B1 := below_trans (below_al w (.cells #[.int .i64 0, .int .i64 0, .int .i64 0, .int .i64 0, .bool false, .int .i64 1, .int .i64 0, .int .i64 0, .int .i64 0, .bool false, .int .i64 8, .int .i64 0, .int .i64 0, .int .i64 0, .bool false] 64)) hb1
  rw [show aw.take 12 = aw from rfl] at hli hbl
  obtain ⟨mv, mb, rfl, hms, hmp⟩ := hli
  obtain ⟨ts, ht1, ht2, _⟩ := hbl
  obtain ⟨tA, tc, rfl, _⟩ := ht2.shape
  obtain ⟨mA, mc, rfl, _⟩ := hms.shape
  have hnx := fun w' (hb : Below w1.heap.size w1 w') => next_any 5 10 (.slice mA (mkL 10 aw).length mc) (mkL 10 aw) mb 12 (mkF aw) w1 w' hb (hms.below hb) (hmp.below hb) (mkL_lst (by decide) (by decide) aw (by decide)) aw_free (by decide)
  have hrk := fun w' (hb : Below w1.heap.size w1 w') => rank_any 5 (.slice mA (mkL 10 aw).length mc) (mkL 10 aw) mb 12 (mkF aw) w1 w' hb (hms.below hb) (hmp.below hb) (mkL_lst (by decide) (by decide) aw (by decide)) aw_free
  have htm := fun w' (hb : Below w1.heap.size w1 w') => toMark_any 5 (.slice mA (mkL 10 aw).length mc) (mkL 10 aw) mb 12 (mkF aw) w' ((hms.below hb).base hb) (hmp.below hb) (mkL_lst (by decide) (by decide) aw (by decide))
  rw [aw_rank] at hrk
  rw [aw_mark] at htm
  obtain ⟨o, ho⟩ : ∃ o, o = next (mkL 10 aw) (mkF aw) 10 := ⟨_, rfl⟩
  have hop : o.map (fun p => (p.fr, p.to_, p.lv, p.ms.length)) = some (0, 20, 2, 2) := by rw [ho]; exact aw_next
  rw [← ho] at hnx
  obtain ⟨n, hn⟩ : ∃ n, n = (mkL 10 aw).length := ⟨_, rfl⟩
  rw [← hn] at hnx hrk htm
  rw [← hn]
  rcases o with _ | p
  · cases hop
  injection hop with hop
  simp only [Prod.mk.injEq] at hop
  obtain ⟨p1, p2, p3, p4⟩ := hop
  have HNX := Lib.hid hnx
  have HRK := Lib.hid hrk
  have HTM := Lib.hid htm
  have HB1 := Lib.hid B1
  clear hnx hrk htm ho hn hms hmp ht1 ht2 hb1 B1
  go_wp2_with fail
  have b2 := below_trans (below_al w1 (.cells #[.int .i64 5, .slice mA n mc, .map (some mb)] 26)) (below_al _ (.cells #[.int .i64 5, .slice tA ts.length tc] 29))
  have L2 := (Blk.new w1 #[.int .i64 5, .slice mA n mc, .map (some mb)] 26).below (below_al _ (.cells #[.int .i64 5, .slice tA ts.length tc] 29))
  refine (HNX.out _ b2).mono ?_
  rintro e w3 ⟨pv, rfl, hpv⟩
  have L3 := L2.below hpv.below_
  have b3 := below_trans b2 hpv.below_
  obtain ⟨pA, pc, rfl, _⟩ := hpv.shape
  unfold plV
  dsimp only [Option.getD_some, Option.isSome_some]
  rw [p1, p2, p3, p4]
  have b4 := below_trans b3 (below_al w3 (.cells #[.int .i64 0, .int .i64 20, .int .i64 2, .slice pA 2 pc] 33))
  have L4 := L3.alloc (.cells #[.int .i64 0, .int .i64 20, .int .i64 2, .slice pA 2 pc] 33)
  have l0 : ∀ o, (w3.alloc o).cell? ⟨w1.heap.size, 0, none⟩ = some (.int .i64 5) := fun o => (L3.alloc o).cell (i := 0) rfl
  have l1 : ∀ o, (w3.alloc o).cell? ⟨w1.heap.size, 1, none⟩ = some (.slice mA n mc) := fun o => (L3.alloc o).cell (i := 1) rfl
  have l2 : ∀ o, (w3.alloc o).cell? ⟨w1.heap.size, 2, none⟩ = some (.map (some mb)) := fun o => (L3.alloc o).cell (i := 2) rfl
  clear hpv L2 L3 b2 b3
  go_wp2_with fail
  refine (HRK.out _ b4).mono ?_
  rintro e w5 ⟨rfl, hb5⟩
  have L5 := L4.below hb5
  have b5 := below_trans b4 hb5
  clear l0 l1 l2 L4 b4 hb5
  have l0 : w5.cell? ⟨w1.heap.size, 0, none⟩ = some (.int .i64 5) := L5.cell (i := 0) rfl
  have l1 : w5.cell? ⟨w1.heap.size, 1, none⟩ = some (.slice mA n mc) := L5.cell (i := 1) rfl
  have l2 : w5.cell? ⟨w1.heap.size, 2, none⟩ = some (.map (some mb)) := L5.cell (i := 2) rfl
  go_wp2_with fail
  refine (HTM.out _ b5).mono ?_
  rintro e w6 ⟨v6, rfl, hn6⟩
  obtain ⟨A6, c6, rfl, _⟩ := hn6.buf.shape
  have HB6 := Lib.hid (below_trans HB1.out (below_trans b5 hn6.below))
  clear hn6 l0 l1 l2 L5 b5
  go_wp2_with fail
  go_ret
  exact ⟨rfl, HB6.out⟩
end Go.Proofs.Ytemmgejaoegpfaa
