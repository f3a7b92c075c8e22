/-
  Layer 20: the laws' common parts: an argument of blocks; the width; awake.
-/
import Derived.Test.YtemmgejaoegpfaaZPlnK
import Derived.Test.YtemmgejaoegpfaaZPlnH
import Derived.Test.YtemmgejaoegpfaaZLib2
import Derived.Test.YtemmgejaoegpfaaZPlnR
import Derived.Test.YtemmgejaoegpfaaZPlnF
import Derived.Test.YtemmgejaoegpfaaZPlnT
import Derived.Test.YtemmgejaoegpfaaZMetR
import Derived.Test.YtemmgejaoegpfaaZLib9

namespace Go.Proofs.Ytemmgejaoegpfaa
open Go.RowKit Go.Bar Go.Bar.Leb Go.Bar.Frm Go.Bar.Idt Go.Bar.Met Go.Bar.Pln

theorem law_own : ownKnob Try.prog.godebug = none := by kernel_rfl
theorem law_laid : laidOutB Try.prog = true := by kernel_rfl

set_option maxRecDepth 100000 in
open Go.ChangeShapes Go.WideShapes Go.Deep in
theorem open_ones {H : Type} {enc : TypeId × Value → H} {W : World} {base b0 : Nat} {spare : Nat → Bool} {held : Bool} {r : Reach} {v : Value} {d : DataW H} {p : List MemPlace} (hval : Value.okWide Try.prog W r b0 22 v)
    (h : DataW.Trod enc Try.prog W base spare held 22 v d p) : ∃ l : List On, OnsAt W v l := by
  obtain ⟨A, n, c, rfl, hnc, hcm, hx⟩ := open_slice_fields Try.underlying22 Try.underlying64 (by kernel_rfl) (by kernel_rfl) (Nat.zero_lt_succ 4 : 0 < 5) hval h
  rcases Nat.eq_zero_or_pos n with h0 | h0
  · subst h0
    exact ⟨[], ⟨rfl, A, c, rfl, hnc, hcm, fun h => absurd h (by simp)⟩⟩
  · obtain ⟨b, o, rfl, hb, hf⟩ := hx h0
    obtain ⟨rs, hl, ht⟩ := list_of (fun i (x : On) => ∀ j u, (encO x)[j]? = some u → W.cell? ⟨b, o + (i * 5 + j), none⟩ = some u) n (fun i hi => by
      obtain ⟨x0, y0, k0, c0, t0⟩ := hf i hi 0 _ rfl
      obtain ⟨x1, y1, k1, c1, t1⟩ := hf i hi 1 _ rfl
      obtain ⟨x2, y2, k2, c2, t2⟩ := hf i hi 2 _ rfl
      obtain ⟨x3, y3, k3, c3, t3⟩ := hf i hi 3 _ rfl
      obtain ⟨x4, y4, k4, c4, t4⟩ := hf i hi 4 _ rfl
      obtain ⟨n0, e0, _, w0⟩ := DataW.trod_int Try.underlying3 t0
      obtain ⟨n1, e1, _, w1⟩ := DataW.trod_int Try.underlying3 t1
      obtain ⟨n2, e2, _, w2⟩ := DataW.trod_int Try.underlying3 t2
      obtain ⟨n3, e3, _, w3⟩ := DataW.trod_int Try.underlying3 t3
      obtain ⟨n4, e4, _⟩ := DataW.trod_bool Try.underlying4 t4
      replace e0 : x0 = _ := (List.cons.inj e0).1
      replace e1 : x1 = _ := (List.cons.inj e1).1
      replace e2 : x2 = _ := (List.cons.inj e2).1
      replace e3 : x3 = _ := (List.cons.inj e3).1
      replace e4 : x4 = _ := (List.cons.inj e4).1
      subst e0; subst e1; subst e2; subst e3; subst e4
      refine ⟨⟨n0, n1, n2, n3, n4⟩, fun j u hu => ?_⟩
      match j, hu with
      | 0, hu => simp [encO] at hu; subst hu; exact c0
      | 1, hu => simp [encO] at hu; subst hu; exact c1
      | 2, hu => simp [encO] at hu; subst hu; exact c2
      | 3, hu => simp [encO] at hu; subst hu; exact c3
      | 4, hu => simp [encO] at hu; subst hu; exact c4
      | j + 5, hu => simp [encO] at hu)
    refine ⟨rs, ⟨flat_length encO 5 encO_five rs, some ⟨b, o, none⟩, c, by rw [hl], by rw [hl]; exact hnc, hcm, fun _ => ⟨b, o, rfl, hb, fun j hj => ?_⟩⟩⟩
    have hlt : j / 5 < rs.length := by omega
    have hg := List.getElem?_eq_getElem hlt
    have h1 := flat_get encO 5 encO_five rs (j / 5) _ hg (j % 5) (by omega)
    rw [show j / 5 * 5 + j % 5 = j by omega] at h1
    have hm5 : j % 5 < (encO rs[j / 5]).length := by rw [encO_five]; exact Nat.mod_lt _ (by omega)
    obtain ⟨u, hu⟩ : ∃ u, (encO rs[j / 5])[j % 5]? = some u := ⟨_, List.getElem?_eq_getElem hm5⟩
    have h2 := ht (j / 5) _ hg (j % 5) u hu
    rw [show j / 5 * 5 + j % 5 = j by omega] at h2
    rw [h2, h1, hu]

/-- a width that the laws take -/
def wdOf (z : Int) : Int := 1 + ((z.tmod 1000 + 1000).tmod 1000)
theorem wdOf_rng (z : Int) : 1 ≤ wdOf z ∧ wdOf z ≤ 1000 := by
  unfold wdOf
  have h1 := Int.natAbs_tmod z 1000
  have h2 := Nat.mod_lt z.natAbs (show 0 < (1000 : Int).natAbs by decide)
  have h3 : 0 ≤ z.tmod 1000 + 1000 := by
    have : (z.tmod 1000).natAbs < 1000 := by rw [h1]; exact h2
    omega
  rw [Int.tmod_eq_emod_of_nonneg h3]
  omega
theorem tmod_small (z : Int) : -1000 < z.tmod 1000 ∧ z.tmod 1000 < 1000 := by
  have h1 := Int.natAbs_tmod z 1000
  have h2 := Nat.mod_lt z.natAbs (show 0 < (1000 : Int).natAbs by decide)
  have : (z.tmod 1000).natAbs < 1000 := by rw [h1]; exact h2
  omega

theorem freeU_len (l : List Mt) (mk : Marks) : (freeU l mk).length ≤ l.length := Nat.le_trans (List.length_filter_le _ _) (List.length_filter_le _ _)

/-- the blocks of awake -/
def aw : List On := [⟨0, 0, 0, 0, false⟩, ⟨1, 0, 0, 0, false⟩, ⟨8, 0, 0, 0, false⟩]
theorem aw_next : (next (mkL 10 aw) (mkF aw) 10).map (fun p => (p.fr, p.to_, p.lv, p.ms.length)) = some (0, 20, 2, 2) := by decide +kernel
theorem aw_rank : rank (mkL 10 aw) (mkF aw) = 2 := by decide +kernel
theorem aw_mark : toMark (mkL 10 aw) (mkF aw) = [] := by decide +kernel
theorem aw_free : (freeU (mkL 10 aw) (mkF aw)).length < 20 := by decide +kernel

set_option maxHeartbeats 4000000 in
set_option maxRecDepth 10000 in
theorem awake_any (w : World) : Calls Try.prog 10 #[] w (RetBelow w (.bool true)) := by
  have hb := Buf.lit w 64 5 3 (aw.flatMap encO) rfl (by decide)
  have hl := listing_any (.slice (some ⟨w.heap.size, 0, none⟩) 3 3) aw 10 (w.alloc (.cells #[.int .i64 0, .int .i64 0, .int .i64 0, .int .i64 0, .bool false, .int .i64 1, .int .i64 0, .int .i64 0, .int .i64 0, .bool false, .int .i64 8, .int .i64 0, .int .i64 0, .int .i64 0, .bool false] 64)) (SlAt.of_buf hb) (by decide) (by decide)
  have HL := Lib.hid hl
  clear hl hb
  go_enter Try.func10, Try.ntmps10
  go_wp2_with fail
  refine HL.out.mono ?_
  rintro e w1 ⟨v, tv, rfl, hli, hbl, hb1⟩
  have B1 := below_trans (below_al w (.cells #[.int .i64 0, .int .i64 0, .int .i64 0, .int .i64 0, .bool false, .int .i64 1, .int .i64 0, .int .i64 0, .int .i64 0, .bool false, .int .i64 8, .int .i64 0, .int .i64 0, .int .i64 0, .bool false] 64)) hb1
  rw [show aw.take 12 = aw from rfl] at hli hbl
  obtain ⟨mv, mb, rfl, hms, hmp⟩ := hli
  obtain ⟨ts, ht1, ht2, _⟩ := hbl
  obtain ⟨tA, tc, rfl, _⟩ := ht2.shape
  obtain ⟨mA, mc, rfl, _⟩ := hms.shape
  have hnx := fun w' (hb : Below w1.heap.size w1 w') => next_any 5 10 (.slice mA (mkL 10 aw).length mc) (mkL 10 aw) mb 12 (mkF aw) w1 w' hb (hms.below hb) (hmp.below hb) (mkL_lst (by decide) (by decide) aw (by decide)) aw_free (by decide)
  have hrk := fun w' (hb : Below w1.heap.size w1 w') => rank_any 5 (.slice mA (mkL 10 aw).length mc) (mkL 10 aw) mb 12 (mkF aw) w1 w' hb (hms.below hb) (hmp.below hb) (mkL_lst (by decide) (by decide) aw (by decide)) aw_free
  have htm := fun w' (hb : Below w1.heap.size w1 w') => toMark_any 5 (.slice mA (mkL 10 aw).length mc) (mkL 10 aw) mb 12 (mkF aw) w' ((hms.below hb).base hb) (hmp.below hb) (mkL_lst (by decide) (by decide) aw (by decide))
  rw [aw_rank] at hrk
  rw [aw_mark] at htm
  obtain ⟨o, ho⟩ : ∃ o, o = next (mkL 10 aw) (mkF aw) 10 := ⟨_, rfl⟩
  have hop : o.map (fun p => (p.fr, p.to_, p.lv, p.ms.length)) = some (0, 20, 2, 2) := by rw [ho]; exact aw_next
  rw [← ho] at hnx
  obtain ⟨n, hn⟩ : ∃ n, n = (mkL 10 aw).length := ⟨_, rfl⟩
  rw [← hn] at hnx hrk htm
  rw [← hn]
  rcases o with _ | p
  · cases hop
  injection hop with hop
  simp only [Prod.mk.injEq] at hop
  obtain ⟨p1, p2, p3, p4⟩ := hop
  have HNX := Lib.hid hnx
  have HRK := Lib.hid hrk
  have HTM := Lib.hid htm
  have HB1 := Lib.hid B1
  clear hnx hrk htm ho hn hms hmp ht1 ht2 hb1 B1
  go_wp2_with fail
  have b2 := below_trans (below_al w1 (.cells #[.int .i64 5, .slice mA n mc, .map (some mb)] 26)) (below_al _ (.cells #[.int .i64 5, .slice tA ts.length tc] 29))
  have L2 := (Blk.new w1 #[.int .i64 5, .slice mA n mc, .map (some mb)] 26).below (below_al _ (.cells #[.int .i64 5, .slice tA ts.length tc] 29))
  refine (HNX.out _ b2).mono ?_
  rintro e w3 ⟨pv, rfl, hpv⟩
  have L3 := L2.below hpv.below_
  have b3 := below_trans b2 hpv.below_
  obtain ⟨pA, pc, rfl, _⟩ := hpv.shape
  unfold plV
  dsimp only [Option.getD_some, Option.isSome_some]
  rw [p1, p2, p3, p4]
  have b4 := below_trans b3 (below_al w3 (.cells #[.int .i64 0, .int .i64 20, .int .i64 2, .slice pA 2 pc] 33))
  have L4 := L3.alloc (.cells #[.int .i64 0, .int .i64 20, .int .i64 2, .slice pA 2 pc] 33)
  have l0 : ∀ o, (w3.alloc o).cell? ⟨w1.heap.size, 0, none⟩ = some (.int .i64 5) := fun o => (L3.alloc o).cell (i := 0) rfl
  have l1 : ∀ o, (w3.alloc o).cell? ⟨w1.heap.size, 1, none⟩ = some (.slice mA n mc) := fun o => (L3.alloc o).cell (i := 1) rfl
  have l2 : ∀ o, (w3.alloc o).cell? ⟨w1.heap.size, 2, none⟩ = some (.map (some mb)) := fun o => (L3.alloc o).cell (i := 2) rfl
  clear hpv L2 L3 b2 b3
  go_wp2_with fail
  refine (HRK.out _ b4).mono ?_
  rintro e w5 ⟨rfl, hb5⟩
  have L5 := L4.below hb5
  have b5 := below_trans b4 hb5
  clear l0 l1 l2 L4 b4 hb5
  have l0 : w5.cell? ⟨w1.heap.size, 0, none⟩ = some (.int .i64 5) := L5.cell (i := 0) rfl
  have l1 : w5.cell? ⟨w1.heap.size, 1, none⟩ = some (.slice mA n mc) := L5.cell (i := 1) rfl
  have l2 : w5.cell? ⟨w1.heap.size, 2, none⟩ = some (.map (some mb)) := L5.cell (i := 2) rfl
  go_wp2_with fail
  refine (HTM.out _ b5).mono ?_
  rintro e w6 ⟨v6, rfl, hn6⟩
  obtain ⟨A6, c6, rfl, _⟩ := hn6.buf.shape
  have HB6 := Lib.hid (below_trans HB1.out (below_trans b5 hn6.below))
  clear hn6 l0 l1 l2 L5 b5
  go_wp2_with fail
  go_ret
  exact ⟨rfl, HB6.out⟩
end Go.Proofs.Ytemmgejaoegpfaa

/-
  Layer 20: the walk of the document's ToMark.
-/
namespace Go.Proofs.Ytemmgejaoegpfaa
open Go.RowKit Go.Bar Go.Bar.Leb Go.Bar.Frm Go.Bar.Idt Go.Bar.Met Go.Bar.Pln

theorem bls_append (a b : List (Mv × Int)) : bls (a ++ b) = bls a ++ bls b := List.flatMap_append
/-- the blocks without a mark -/
def noMk (ts : List (Mv × Int)) : List (Mv × Int) := ts.filter (fun x => decide (x.2 < 0))
theorem noMk_take {ts : List (Mv × Int)} {k : Nat} {x : Mv × Int} (h : ts[k]? = some x) : noMk (ts.take (k + 1)) = noMk (ts.take k) ++ (if x.2 < 0 then [x] else []) := by
  unfold noMk
  rw [List.take_add_one, h, List.filter_append, Option.toList_some]
  congr 1
  by_cases hp : x.2 < 0 <;> simp [hp]
theorem noMk_len (ts : List (Mv × Int)) (k : Nat) : (noMk (ts.take k)).length ≤ k := Nat.le_trans (List.length_filter_le _ _) (by rw [List.length_take]; omega)
theorem noMk_mts {mk : Marks} : ∀ ts : List (Mv × Int), (∀ x ∈ ts, (x.2 < 0 ↔ (mk x.1.m.id).isNone = true)) → mtsB (noMk ts) = unmarked (mtsB ts) mk
  | [], _ => rfl
  | x :: r, h => by
    have ih := noMk_mts (mk := mk) r (fun y hy => h y (List.mem_cons_of_mem _ hy))
    have hx := h x (List.mem_cons_self ..)
    unfold noMk unmarked mtsB at ih ⊢
    rw [List.map_cons, List.filter_cons, List.filter_cons]
    by_cases hp : x.2 < 0
    · rw [if_pos (decide_eq_true hp), if_pos (hx.1 hp), List.map_cons, ih]
    · rw [if_neg (by rw [decide_eq_true_eq]; exact hp), if_neg (fun e => hp (hx.2 e)), ih]
theorem srcs_noMk (ts : List (Mv × Int)) : (srcs (mtsB (noMk ts))).length ≤ (srcs (mtsB ts)).length := by
  induction ts with
  | nil => exact Nat.le_refl _
  | cons x r ih =>
    unfold noMk mtsB srcs at ih ⊢
    rw [List.filter_cons]
    split
    · rw [List.map_cons, List.map_cons, List.flatMap_cons, List.flatMap_cons, List.length_append, List.length_append]; omega
    · rw [List.map_cons, List.flatMap_cons, List.length_append]; omega

set_option maxHeartbeats 16000000 in
set_option maxRecDepth 10000 in
theorem toMark_any20 (at_ : Int) (v : Value) (ts : List (Mv × Int)) (mk : Marks) (w0 w : World) (hw0 : Below w0.heap.size w0 w) (h : BsAt w0 w v ts) (hl : ts.length ≤ 1000) (hn : (srcs (mtsB ts)).length ≤ 1000000000) (hm : ∀ x ∈ ts, (x.2 < 0 ↔ (mk x.1.m.id).isNone = true)) :
    Calls Try.prog 13 #[.agg #[.int .i64 at_, v]] w (RetSs w (toMark (mtsB ts) mk)) := by
  obtain ⟨A, c, rfl, hlc, hcm⟩ := h.shape
  unfold maxLen at hcm
  have hmts := noMk_mts ts hm
  have hsn := srcs_noMk ts
  have htm := toMark_eq (mtsB ts) mk
  rw [← hmts] at htm
  obtain ⟨RS, hRS⟩ : ∃ RS, RS = toMark (mtsB ts) mk := ⟨_, rfl⟩
  rw [← hRS] at htm ⊢
  have hnl : (noMk ts).length ≤ 1000 := Nat.le_trans (List.length_filter_le _ _) hl
  obtain ⟨N, hN⟩ : ∃ N, N = noMk ts := ⟨_, rfl⟩
  rw [← hN] at htm hsn hnl
  have hnN : (srcs (mtsB N)).length ≤ 1000000000 := by omega
  have hmd := fun (rv : Value) (w' : World) (hb : Below w0.heap.size w0 w') (hB : BsAt w0 w' rv N) id => made_any10 0 rv N id w' ⟨hB.1, fun x hx => (hB.2 x hx).below hb⟩ hnN
  have HMD := Lib.hid hmd
  have HT := Lib.hid h
  have HTM := Lib.hid htm
  have HN := Lib.hid hN
  have HW0 := Lib.hid hw0
  clear hmts hsn hRS hN hm h hn hw0 hmd htm hnN
  obtain ⟨p, hp⟩ : ∃ p : Mt → Bool, p = fun x => decide (0 < gone (mtsB N) x.id) := ⟨_, rfl⟩
  have hpm : ∀ m, p m = decide (0 < gone (mtsB N) m.id) := fun m => by rw [hp]
  have HPM := Lib.hid hpm
  have HTP : Hid (RS = ((mtsB N).filter p).map (·.id)) := Lib.hid (by rw [HTM.out, hp])
  clear HTM hp hpm
  go_enter Try.func13, Try.ntmps13
  go_upto_region 1 with fail
  obtain ⟨w1, hw1⟩ : ∃ w1, w1 = w.alloc (.cells #[.int .i64 at_, .slice A ts.length c] 29) := ⟨_, rfl⟩
  have b1 := below_al w (.cells #[.int .i64 at_, .slice A ts.length c] 29)
  have X1 := Blk.new w #[.int .i64 at_, .slice A ts.length c] 29
  have s1 : w1.heap.size = w.heap.size + 1 := by rw [hw1]; simp
  rw [← hw1] at b1 X1 ⊢
  clear hw1
  go_upto_region 2 with fail
  obtain ⟨w2, hw2⟩ : ∃ w2, w2 = w1.alloc (.cells #[.int .i64 0, .slice none 0 0] 29) := ⟨_, rfl⟩
  have b2 := below_al w1 (.cells #[.int .i64 0, .slice none 0 0] 29)
  have Y2 := Blk.new w1 #[.int .i64 0, .slice none 0 0] 29
  rw [← hw2] at b2 Y2 ⊢
  have X2 := X1.below b2
  have b3 := below_trans b1 b2
  rw [s1] at Y2
  obtain ⟨x0, x1⟩ := X2.c2
  obtain ⟨y0, y1⟩ := Y2.c2
  have z0 := Y2.free 0
  have z1 := Y2.free 1
  have HY2 := Lib.hid Y2
  have HB3 := Lib.hid b3
  obtain ⟨X, hX⟩ : ∃ X, X = w.heap.size + 1 := ⟨_, rfl⟩
  rw [← hX] at HY2 y0 y1 z0 z1 ⊢
  have hXw : w.heap.size ≤ X := by omega
  clear hw2 X1 b1 X2 b2 Y2 b3 s1 hX
  go_upto_region 3 with fail
  clear x0 x1 y0 y1 z0 z1
  go_loopw [13] (fun i wr => ∃ (k : Nat) (rv : Value) (R : List (Mv × Int)), i = .int .i64 k ∧ k ≤ ts.length ∧ R.length ≤ k ∧ Hid (Blk wr X 29 #[.int .i64 0, rv]) ∧ Hid (NBuf w wr 70 9 rv R.length (bls R)) ∧ Hid (R = noMk (ts.take k))) (fun i _ => ts.length - (intOf i).toNat)
  case atStart => exact ⟨0, .slice none 0 0, [], rfl, Nat.zero_le _, Nat.zero_le _, HY2, Lib.hid (NBuf.nil HB3.out _ _), Lib.hid rfl⟩
  case round =>
    obtain ⟨k, rv, R, rfl, hk, hRk, HYR, HNR, HR⟩ := hrel
    clear HY2
    have hbr := HNR.out.below
    obtain ⟨rA, rc, rfl, hrc⟩ := HNR.out.buf.shape
    by_cases hgo : k < ts.length
    · obtain ⟨⟨x, z⟩, hx⟩ : ∃ x, ts[k]? = some x := ⟨_, List.getElem?_eq_getElem hgo⟩
      obtain ⟨b, o, rfl, hma, c0, c1, c2, c3, c4, c5, c6, c7, c8⟩ := (HT.out.below hbr).at_ hx
      dsimp only at hma c0 c1 c2 c3 c4 c5 c6 c7 c8
      have hft := noMk_take hx
      rw [← HR.out] at hft
      dsimp only at hft
      have HFT := Lib.hid hft
      have hci : (k : Int) < (ts.length : Int) := by omega
      have hci0 : (0 : Int) ≤ (k : Int) := by omega
      have HN1 := Lib.hid (HNR.out.alloc (.cells (cB x z) 70))
      have HY1 := Lib.hid (HYR.out.alloc (.cells (cB x z) 70))
      have HZ1 : Hid (Blk (wr.alloc (.cells (cB x z) 70)) wr.heap.size 70 (cB x z)) := Lib.hid (Blk.new _ _ _)
      clear hx hma hft hbr HNR HYR HR
      go_upto_region 5 with fail
      obtain ⟨wb, hwb⟩ : ∃ wb, wb = wr.alloc (.cells #[.string (bs x.m.id), .int .i64 x.m.mn, .int .i64 x.m.mx, .int .i64 x.m.lv, .int .i64 x.m.sr, .int .i64 x.m.sm, .slice x.fa x.m.fs.length x.fc, .slice x.sa x.m.ss.length x.sc, .int .i64 z] 70) := ⟨_, rfl⟩
      unfold cB at HN1 HY1 HZ1
      rw [← hwb] at HN1 HY1 HZ1 ⊢
      obtain ⟨Z, hZ⟩ : ∃ Z, Z = wr.heap.size := ⟨_, rfl⟩
      rw [← hZ] at HZ1 ⊢
      obtain ⟨q0, q1, q2, q3, q4, q5, q6, q7, q8⟩ := HZ1.out.c9
      obtain ⟨y0, y1⟩ := HY1.out.c2
      clear hwb hZ c0 c1 c2 c3 c4 c5 c6 c7 c8
      have hbw := HN1.out.below
      rcases Int.lt_or_le z 0 with hz | hz
      · have hft := HFT.out
        rw [if_pos hz] at hft
        have HFT2 := Lib.hid hft
        have hnb := HN1.out
        clear hft HFT
        go_wp2_with (at_builtin; refine wpList_append_nlit rfl (.tmp 21) (.tmp 23) 27 rfl block_ty rfl hnb rfl (by simp) rfl (by simp [Value.oneCell']) (by simp only [maxLen]; omega) (by omega) ?_; intro v3 w3 hn3 ha3; have HY3 := Lib.hid ((HY1.out.alloc _).ap (hnb.alloc _).buf ha3 (by decide)); have HN3 := Lib.hid hn3; obtain ⟨A3, c3, rfl, hc3⟩ := hn3.buf.shape; clear hn3 ha3 hnb y0 y1; obtain ⟨y0, y1⟩ := HY3.out.c2; have z1 := HY3.out.free 1)
        go_roundw
        case rel => exact ⟨k + 1, .slice A3 (R.length + 1) c3, R ++ [(x, z)], by go_num, by omega, by rw [List.length_append]; show R.length + 1 ≤ _; omega, Lib.hid (HY3.out.set 1 _), Lib.hid (by
          rw [bls_append, List.length_append]
          exact HN3.out.set_ne HY3.out (by decide) hXw 1 _), Lib.hid HFT2.out.symm⟩
        case measure => simp [intOf]; omega
      · have hft := HFT.out
        rw [if_neg (by omega), List.append_nil] at hft
        have HFT2 := Lib.hid hft
        clear hft HFT
        go_wp2_with fail
        go_roundw
        case rel => exact ⟨k + 1, .slice rA R.length rc, R, by go_num, by omega, by omega, HY1, HN1, Lib.hid HFT2.out.symm⟩
        case measure => simp [intOf]; omega
    · obtain rfl : k = ts.length := by omega
      have hrn := HR.out
      rw [List.take_length] at hrn
      have hmem : ∀ x ∈ R, MAt w0 x.1 := fun x hx => by
        rw [hrn] at hx
        exact HT.out.2 x ((List.mem_filter.1 hx).1)
      rw [← HN.out] at hrn
      subst hrn
      have hbs : BsAt w0 wr (.slice rA R.length rc) R := ⟨HNR.out.slice, hmem⟩
      have HBS := Lib.hid hbs
      have HWR := Lib.hid (below_trans HW0.out hbr)
      have HBR := Lib.hid hbr
      clear HR HN HNR HT HW0 hmem hbs hbr
      go_upto_region 9 with fail
      obtain ⟨w5, rfl⟩ : ∃ w5 : World, w5 = wr := ⟨_, rfl⟩
      have hnb0 := NBuf.lit0 (Below.refl w5.heap.size w5) 9 1
      have hb0 := below_al w5 (.cells #[] 9)
      obtain ⟨wo, hwo⟩ : ∃ wo, wo = w5.alloc (.cells #[] 9) := ⟨_, rfl⟩
      rw [← hwo] at hnb0 hb0 ⊢
      obtain ⟨y0, y1⟩ := (HYR.out.below hb0).c2
      clear hwo
      go_upto_region 10 with fail
      clear y0 y1
      obtain ⟨U, hU⟩ : ∃ U, U = mtsB R := ⟨_, rfl⟩
      have hUl : U.length = R.length := by rw [hU]; exact List.length_map _
      rw [← hU] at HMD HPM HTP
      have HU := Lib.hid hU
      clear hU hb0
      go_loopw [6, 31] (fun ov i wr => ∃ k : Nat, i = .int .i64 k ∧ k ≤ R.length ∧ NBuf w5 wr 9 1 ov ((U.take k).filter p).length (scs (((U.take k).filter p).map (·.id)))) (fun _ i _ => R.length - (intOf i).toNat)
      case atStart => exact ⟨0, rfl, Nat.zero_le _, hnb0⟩
      case round =>
        obtain ⟨k, rfl, hk, hnb⟩ := hrel
        clear hnb0
        obtain ⟨A2, c2, rfl, hc2⟩ := hnb.buf.shape
        have hfl := filter_take_len p U k
        obtain ⟨FL, hFL⟩ : ∃ FL, FL = (U.take k).filter p := ⟨_, rfl⟩
        rw [← hFL] at hnb hfl hc2 ⊢
        have HFL := Lib.hid hFL
        clear hFL
        by_cases hgo : k < R.length
        · obtain ⟨⟨x, z⟩, hx⟩ : ∃ x, R[k]? = some x := ⟨_, List.getElem?_eq_getElem hgo⟩
          obtain ⟨b, o, rfl, hma, c0, c1, c2', c3, c4, c5, c6, c7, c8⟩ := (HBS.out.below hnb.below).at_ hx
          dsimp only at hma c0 c1 c2' c3 c4 c5 c6 c7 c8
          have hft := filter_take (p := p) (show U[k]? = some x.m by rw [HU.out]; exact mtsB_at hx)
          rw [← HFL.out] at hft
          have hpm := HPM.out x.m
          obtain ⟨G, hG⟩ : ∃ G, G = gone U x.m.id := ⟨_, rfl⟩
          have hb1 := below_trans hnb.below (below_al wr (.cells (cB x z) 70))
          have hmd := HMD.out _ _ (below_trans HWR.out hb1) (HBS.out.below hb1) x.m.id
          rw [← hG] at hmd hpm
          have HNB := Lib.hid (hnb.alloc (.cells (cB x z) 70))
          have HZ1 : Hid (Blk (wr.alloc (.cells (cB x z) 70)) wr.heap.size 70 (cB x z)) := Lib.hid (Blk.new _ _ _)
          have HYX := Lib.hid (HYR.out.below hb1)
          have HFT := Lib.hid hft
          have HMDX := Lib.hid hmd
          have HPX := Lib.hid hpm
          have hci : (k : Int) < (R.length : Int) := by omega
          have hci0 : (0 : Int) ≤ (k : Int) := by omega
          clear hx hma hft hmd hpm hG hb1 hnb
          go_upto_region 12 with fail
          obtain ⟨wb, hwb⟩ : ∃ wb, wb = wr.alloc (.cells #[.string (bs x.m.id), .int .i64 x.m.mn, .int .i64 x.m.mx, .int .i64 x.m.lv, .int .i64 x.m.sr, .int .i64 x.m.sm, .slice x.fa x.m.fs.length x.fc, .slice x.sa x.m.ss.length x.sc, .int .i64 z] 70) := ⟨_, rfl⟩
          unfold cB at HNB HZ1 HYX HMDX
          rw [← hwb] at HNB HZ1 HYX HMDX ⊢
          obtain ⟨Z, hZ⟩ : ∃ Z, Z = wr.heap.size := ⟨_, rfl⟩
          rw [← hZ] at HZ1 ⊢
          obtain ⟨q0, q1, q2, q3, q4, q5, q6, q7, q8⟩ := HZ1.out.c9
          obtain ⟨y0, y1⟩ := HYX.out.c2
          clear hwb hZ c0 c1 c2' c3 c4 c5 c6 c7 c8
          go_wp2_with fail
          refine HMDX.out.mono ?_
          rintro e w6 ⟨rfl, hb6⟩
          have HZ2 := Lib.hid (HZ1.out.below hb6)
          have HN2 := Lib.hid (HNB.out.then_below hb6)
          obtain ⟨q0, q1, q2, q3, q4, q5, q6, q7, q8⟩ := HZ2.out.c9
          clear hb6 HNB HZ1 HYX HMDX y0 y1
          have hnb1 := HN2.out
          by_cases hg : 0 < G
          · have hg1 : (0 : Int) < (G : Int) := by omega
            have hd : p x.m = true := by rw [HPX.out]; exact decide_eq_true hg
            have hft := HFT.out
            rw [if_pos hd] at hft
            have HFT2 := Lib.hid hft
            clear hft hd HFT
            go_wp2_with (at_builtin; refine wpList_append_nlit rfl (.tmp 41) (.tmp 45) 43 rfl str_ty rfl hnb1 rfl (by simp) rfl (by simp [Value.oneCell']) (by simp only [maxLen]; omega) (by omega) ?_; intro v3 w7 hnb5 _)
            go_roundw
            case rel => exact ⟨k + 1, by go_num, by omega, by
              rw [HFT2.out, List.map_append, scs_append, List.length_append]
              exact hnb5⟩
            case measure => simp [intOf]; omega
          · obtain rfl : G = 0 := by omega
            have hd : p x.m = false := by rw [HPX.out]; rfl
            have hft := HFT.out
            rw [hd, if_neg Bool.false_ne_true, List.append_nil] at hft
            have HFT2 := Lib.hid hft
            clear hft hd HFT
            go_wp2_with fail
            go_roundw
            case rel => exact ⟨k + 1, by go_num, by omega, by rw [HFT2.out]; exact hnb1⟩
            case measure => simp [intOf]; omega
        · obtain rfl : k = R.length := by omega
          have hres : NBuf w wr 9 1 (.slice A2 FL.length c2) RS.length (scs RS) := by
            have e1 : FL = U.filter p := by rw [HFL.out, ← hUl, List.take_length]
            rw [HTP.out, ← e1, List.length_map]
            exact hnb.after HBR.out
          have HR := Lib.hid hres
          clear hres hnb
          go_wp2_with fail
          go_ret
          exact ⟨_, rfl, HR.out⟩
end Go.Proofs.Ytemmgejaoegpfaa

/-
  Layer 20: the walk of the law's same.
-/
namespace Go.Proofs.Ytemmgejaoegpfaa
open Go.RowKit Go.Bar Go.Bar.Leb Go.Bar.Frm Go.Bar.Idt Go.Bar.Met Go.Bar.Pln

set_option maxHeartbeats 16000000 in
set_option maxRecDepth 10000 in
theorem same_any20 (p : Pl) (v u : Value) (w0 w : World) (hw0 : Below w0.heap.size w0 w) (hv : MsAt w0 w v p.ms) (hu : MsAt w0 w u p.ms) (hs : ∀ m ∈ p.ms, m.fs.length ≤ 1000) :
    Calls Try.prog 11 #[plV p v, plV p u] w (RetBelow w (.bool true)) := by
  obtain ⟨fr, to_, lv, ms⟩ := p
  dsimp only at hv hu hs
  obtain ⟨vA, vc, rfl, hvc, hvm⟩ := hv.shape
  obtain ⟨uA, uc, rfl, huc, hum⟩ := hu.shape
  unfold maxLen at hvm hum
  obtain ⟨n, hn⟩ : ∃ n, n = ms.length := ⟨_, rfl⟩
  rw [← hn] at hv hu hvc huc
  have HV := Lib.hid hv
  have HU := Lib.hid hu
  have HS := Lib.hid hs
  have HW0 := Lib.hid hw0
  have HN := Lib.hid hn
  unfold plV
  dsimp only
  rw [← hn]
  clear hv hu hs hw0 hn
  go_enter Try.func11, Try.ntmps11
  go_upto_region 1 with fail
  have X1 := Blk.new w #[.int .i64 fr, .int .i64 to_, .int .i64 lv, .slice vA n vc] 33
  have b1 := below_al w (.cells #[.int .i64 fr, .int .i64 to_, .int .i64 lv, .slice vA n vc] 33)
  have Y2 := Blk.new (w.alloc (.cells #[.int .i64 fr, .int .i64 to_, .int .i64 lv, .slice vA n vc] 33)) #[.int .i64 fr, .int .i64 to_, .int .i64 lv, .slice uA n uc] 38
  have b2 := below_al (w.alloc (.cells #[.int .i64 fr, .int .i64 to_, .int .i64 lv, .slice vA n vc] 33)) (.cells #[.int .i64 fr, .int .i64 to_, .int .i64 lv, .slice uA n uc] 38)
  have X2 := X1.below b2
  have B2 := below_trans b1 b2
  obtain ⟨w2, hw2⟩ : ∃ w2, w2 = (w.alloc (.cells #[.int .i64 fr, .int .i64 to_, .int .i64 lv, .slice vA n vc] 33)).alloc (.cells #[.int .i64 fr, .int .i64 to_, .int .i64 lv, .slice uA n uc] 38) := ⟨_, rfl⟩
  rw [← hw2] at X2 Y2 B2 ⊢
  rw [show (w.alloc (.cells #[.int .i64 fr, .int .i64 to_, .int .i64 lv, .slice vA n vc] 33)).heap.size = w.heap.size + 1 by simp] at Y2
  obtain ⟨X, hX⟩ : ∃ X, X = w.heap.size := ⟨_, rfl⟩
  rw [← hX] at X2 Y2 ⊢
  have HX := Lib.hid X2
  have HY := Lib.hid Y2
  have HB2 := Lib.hid B2
  obtain ⟨x0, x1, x2, x3⟩ := X2.c4
  obtain ⟨y0, y1, y2, y3⟩ := Y2.c4
  clear hw2 X1 b1 b2 X2 Y2 B2 hX
  go_upto_region 4 with fail
  clear x0 x1 x2 x3 y0 y1 y2 y3
  go_loopw [38] (fun i wr => ∃ k : Nat, i = .int .i64 k ∧ k ≤ n ∧ Below w2.heap.size w2 wr) (fun i _ => n - (intOf i).toNat)
  case atStart => exact ⟨0, rfl, Nat.zero_le _, Below.refl _ _⟩
  case round =>
    obtain ⟨k, rfl, hk, hb⟩ := hrel
    by_cases hgo : k < n
    · obtain ⟨m, hmk⟩ : ∃ m, ms[k]? = some m := ⟨_, List.getElem?_eq_getElem (by rw [← HN.out]; exact hgo)⟩
      have hbw := below_trans HB2.out hb
      obtain ⟨b, o, x, rfl, hbl, hxm, hma, c0, c1, c2, c3, c4, c5, c6, c7⟩ := (HU.out.below hbw).at_ hmk
      obtain ⟨b', o', x', rfl, hbl', hxm', hma', d0, d1, d2, d3, d4, d5, d6, d7⟩ := (HV.out.below hbw).at_ hmk
      have hfs := HS.out m (List.mem_of_getElem? hmk)
      have hbb := below_trans hbw (below_al wr (.cells (cM x) 67))
      have hw0b := below_trans HW0.out hbb
      have HMA := Lib.hid (hma.below hw0b)
      have HMA' := Lib.hid (hma'.below hw0b)
      subst hxm
      have hci : (k : Int) < (n : Int) := by omega
      have hci0 : (0 : Int) ≤ (k : Int) := by omega
      have b9 := below_al wr (.cells (cM x) 67)
      have HX9 := Lib.hid ((HX.out.below hb).below b9)
      have HB9 := Lib.hid (below_trans hb b9)
      have HM9 : Hid (Blk (wr.alloc (.cells (cM x) 67)) wr.heap.size 67 (cM x)) := Lib.hid (Blk.new _ _ _)
      have hd : ∀ w', Below wr.heap.size wr w' → w'.cell? ⟨b', o' + k * 8, none⟩ = some (.string (bs x.m.id)) ∧ w'.cell? ⟨b', o' + k * 8 + 1, none⟩ = some (.int .i64 x.m.mn) ∧ w'.cell? ⟨b', o' + k * 8 + 2, none⟩ = some (.int .i64 x.m.mx) ∧ w'.cell? ⟨b', o' + k * 8 + 3, none⟩ = some (.int .i64 x.m.lv) ∧
          w'.cell? ⟨b', o' + k * 8 + 4, none⟩ = some (.int .i64 x.m.sr) ∧ w'.cell? ⟨b', o' + k * 8 + 5, none⟩ = some (.int .i64 x.m.sm) ∧ w'.cell? ⟨b', o' + k * 8 + 6, none⟩ = some (.slice x'.fa x.m.fs.length x'.fc) ∧ w'.cell? ⟨b', o' + k * 8 + 7, none⟩ = some (.slice x'.sa x.m.ss.length x'.sc) := fun w' hw =>
        ⟨(Below.cell hw (p := ⟨b', o' + k * 8, none⟩) hbl').trans d0, (Below.cell hw (p := ⟨b', o' + k * 8 + 1, none⟩) hbl').trans d1, (Below.cell hw (p := ⟨b', o' + k * 8 + 2, none⟩) hbl').trans d2, (Below.cell hw (p := ⟨b', o' + k * 8 + 3, none⟩) hbl').trans d3, (Below.cell hw (p := ⟨b', o' + k * 8 + 4, none⟩) hbl').trans d4, (Below.cell hw (p := ⟨b', o' + k * 8 + 5, none⟩) hbl').trans d5, (Below.cell hw (p := ⟨b', o' + k * 8 + 6, none⟩) hbl').trans d6, (Below.cell hw (p := ⟨b', o' + k * 8 + 7, none⟩) hbl').trans d7⟩
      have HD := Lib.hid hd
      have B9 := Lib.hid b9
      have hm1 := hma.below hw0b
      have hm2 := hma'.below hw0b
      unfold MAt at hm1 hm2
      rw [hxm'] at hm2
      have HM1 := Lib.hid hm1
      have HM2 := Lib.hid hm2
      clear hmk hma hma' hbb hbw hw0b b9 HMA HMA' hm1 hm2 d0 d1 d2 d3 d4 d5 d6 d7 hd hxm' hbl hbl' hb
      go_upto_region 6 with fail
      obtain ⟨wb, hwb⟩ : ∃ wb, wb = wr.alloc (.cells #[.string (bs x.m.id), .int .i64 x.m.mn, .int .i64 x.m.mx, .int .i64 x.m.lv, .int .i64 x.m.sr, .int .i64 x.m.sm, .slice x.fa x.m.fs.length x.fc, .slice x.sa x.m.ss.length x.sc] 67) := ⟨_, rfl⟩
      unfold cM at HX9 HB9 HM9 HM1 HM2 B9
      rw [← hwb] at HX9 HB9 HM9 HM1 HM2 B9 ⊢
      obtain ⟨Z, hZ⟩ : ∃ Z, Z = wr.heap.size := ⟨_, rfl⟩
      rw [← hZ] at HM9 ⊢
      clear hwb hZ c0 c1 c2 c3 c4 c5 c6 c7
      refine wp_region_facts [(1, (isV (.slice (some ⟨b', o', none⟩) n vc), noFact)), (4, (isV (.agg #[.string (bs x.m.id), .int .i64 x.m.mn, .int .i64 x.m.mx, .int .i64 x.m.lv, .int .i64 x.m.sr, .int .i64 x.m.sm, .slice x'.fa x.m.fs.length x'.fc, .slice x'.sa x.m.ss.length x'.sc]), noFact)), (5, ((fun v => ∃ A c, v = .agg #[.string (bs x.m.id), .int .i64 x.m.mn, .int .i64 x.m.mx, .int .i64 x.m.lv, .int .i64 x.m.sr, .int .i64 x.m.sm, .slice A x.m.fs.length c, .slice x'.sa x.m.ss.length x'.sc]), (fun v w => ∀ A c, v = .agg #[.string (bs x.m.id), .int .i64 x.m.mn, .int .i64 x.m.mx, .int .i64 x.m.lv, .int .i64 x.m.sr, .int .i64 x.m.sm, .slice A x.m.fs.length c, .slice x'.sa x.m.ss.length x'.sc] → FlsAt w (.slice A x.m.fs.length c) x.m.fs))), (6, (isV (.agg #[.string (bs x.m.id), .int .i64 x.m.mn, .int .i64 x.m.mx, .int .i64 x.m.lv, .int .i64 x.m.sr, .int .i64 x.m.sm, .slice x.fa x.m.fs.length x.fc, .slice x.sa x.m.ss.length x.sc]), noFact)), (7, (isV (.bool true), noFact))] (by kernel_rfl) 53 (by kernel_rfl) rfl ?_ ?_ ?_
      · apply lookup_ne
        simp only [List.forall_mem_cons, List.not_mem_nil, false_imp_iff, implies_true, and_true]
        exact ⟨⟨_, rfl⟩, ⟨_, rfl⟩, ⟨_, none, 0, rfl⟩, ⟨_, rfl⟩, ⟨_, rfl⟩⟩
      · apply lookup_st
        simp only [List.forall_mem_cons, List.not_mem_nil, false_imp_iff, implies_true, and_true]
        refine ⟨?_, ?_, ?_, ?_, ?_⟩
        · exact fun _ _ _ _ _ => trivial
        · exact fun _ _ _ _ _ => trivial
        · exact fun v w w' hb hv A c he => FlsAt.below (hv A c he) hb
        · exact fun _ _ _ _ _ => trivial
        · exact fun _ _ _ _ _ => trivial
      repeat (first
        | (refine Chain.step (v := ?_) (a' := ?_) rfl rfl rfl ?_ ?_ ?_
           rotate_left 2
           focus (intro w; go_simp; try with_reducible rfl)
           focus (simp only [Act.put, List.setIfInBounds_toArray, List.set_cons_succ, List.set_cons_zero]; try rfl))
        | (refine Chain.skip (a' := ?_) rfl rfl rfl ?_ ?_
           rotate_left 1
           focus (simp only [Act.put, List.setIfInBounds_toArray, List.set_cons_succ, List.set_cons_zero]; try rfl)))
      refine Chain.call' (a' := ?_) _ rfl rfl rfl rfl (fun wx hw hF => ?_) ?_ ?_
      rotate_left 1
      focus
        obtain ⟨g0, g1, g2, g3⟩ := Blk.c4 (HX9.out.below hw); go_simp; first | exact ⟨rfl, Below.refl _ _⟩ | exact Below.refl _ _
      focus (simp only [Act.put, List.setIfInBounds_toArray, List.set_cons_succ, List.set_cons_zero]; try rfl)
      repeat (first
        | (refine Chain.step (v := ?_) (a' := ?_) rfl rfl rfl ?_ ?_ ?_
           rotate_left 2
           focus (intro w; go_simp; try with_reducible rfl)
           focus (simp only [Act.put, List.setIfInBounds_toArray, List.set_cons_succ, List.set_cons_zero]; try rfl))
        | (refine Chain.skip (a' := ?_) rfl rfl rfl ?_ ?_
           rotate_left 1
           focus (simp only [Act.put, List.setIfInBounds_toArray, List.set_cons_succ, List.set_cons_zero]; try rfl)))
      refine Chain.call' (a' := ?_) _ rfl rfl rfl rfl (fun wx hw hF => ?_) ?_ ?_
      rotate_left 1
      focus
        obtain ⟨g0, g1, g2, g3, g4, g5, g6, g7⟩ := HD.out _ (below_trans B9.out hw)
        go_simp
        first | exact ⟨rfl, Below.refl _ _⟩ | exact Below.refl _ _
      focus (simp only [Act.put, List.setIfInBounds_toArray, List.set_cons_succ, List.set_cons_zero]; try rfl)
      repeat (first
        | (refine Chain.step (v := ?_) (a' := ?_) rfl rfl rfl ?_ ?_ ?_
           rotate_left 2
           focus (intro w; go_simp; try with_reducible rfl)
           focus (simp only [Act.put, List.setIfInBounds_toArray, List.set_cons_succ, List.set_cons_zero]; try rfl))
        | (refine Chain.skip (a' := ?_) rfl rfl rfl ?_ ?_
           rotate_left 1
           focus (simp only [Act.put, List.setIfInBounds_toArray, List.set_cons_succ, List.set_cons_zero]; try rfl)))
      refine Chain.make _ _ rfl rfl rfl (fun wx hw hF => ?_) (fun v5 hv5 a' ha => ?_)
      focus
        go_simp
        with_reducible refine (told_any x.m _ _ _ (FlsAt.below HM2.out.1 hw) (SrcAt.below HM2.out.2 hw) hfs).mono ?_
        rintro e w' ⟨ft, rfl, hft, hbt⟩
        obtain ⟨T, tc, rfl, _⟩ := hft.buf.shape
        exact ⟨hbt, ⟨T, tc, rfl⟩, fun A c he => by simp at he; obtain ⟨rfl, rfl⟩ := he; exact hft.slice⟩
      obtain ⟨T5, t5, rfl⟩ := hv5
      simp only [Act.put, List.setIfInBounds_toArray, List.set_cons_succ, List.set_cons_zero] at ha
      subst ha
      repeat (first
        | (refine Chain.step (v := ?_) (a' := ?_) rfl rfl rfl ?_ ?_ ?_
           rotate_left 2
           focus (intro w; go_simp; try with_reducible rfl)
           focus (simp only [Act.put, List.setIfInBounds_toArray, List.set_cons_succ, List.set_cons_zero]; try rfl))
        | (refine Chain.skip (a' := ?_) rfl rfl rfl ?_ ?_
           rotate_left 1
           focus (simp only [Act.put, List.setIfInBounds_toArray, List.set_cons_succ, List.set_cons_zero]; try rfl)))
      refine Chain.call' (a' := ?_) _ rfl rfl rfl rfl (fun wx hw hF => ?_) ?_ ?_
      rotate_left 1
      focus
        obtain ⟨g0, g1, g2, g3, g4, g5, g6, g7⟩ := Blk.c8 (HM9.out.below hw); go_simp; first | exact ⟨rfl, Below.refl _ _⟩ | exact Below.refl _ _
      focus (simp only [Act.put, List.setIfInBounds_toArray, List.set_cons_succ, List.set_cons_zero]; try rfl)
      repeat (first
        | (refine Chain.step (v := ?_) (a' := ?_) rfl rfl rfl ?_ ?_ ?_
           rotate_left 2
           focus (intro w; go_simp; try with_reducible rfl)
           focus (simp only [Act.put, List.setIfInBounds_toArray, List.set_cons_succ, List.set_cons_zero]; try rfl))
        | (refine Chain.skip (a' := ?_) rfl rfl rfl ?_ ?_
           rotate_left 1
           focus (simp only [Act.put, List.setIfInBounds_toArray, List.set_cons_succ, List.set_cons_zero]; try rfl)))
      refine Chain.call' (a' := ?_) _ rfl rfl rfl rfl (fun wx hw hF => ?_) ?_ ?_
      rotate_left 1
      focus
        go_simp
        with_reducible refine (metaSame_any x.m _ _ _ _ _ ?_ ?_ ?_ ?_).mono ?_
        · exact (hF 5 (by kernel_rfl)) _ _ rfl
        · exact SrcAt.below HM2.out.2 hw
        · exact FlsAt.below HM1.out.1 hw
        · exact SrcAt.below HM1.out.2 hw
        · exact (fun e w' ⟨h1, h2⟩ => by subst h1; exact ⟨rfl, h2⟩)
      focus (simp only [Act.put, List.setIfInBounds_toArray, List.set_cons_succ, List.set_cons_zero]; try rfl)
      repeat (first
        | (refine Chain.step (v := ?_) (a' := ?_) rfl rfl rfl ?_ ?_ ?_
           rotate_left 2
           focus (intro w; go_simp; try with_reducible rfl)
           focus (simp only [Act.put, List.setIfInBounds_toArray, List.set_cons_succ, List.set_cons_zero]; try rfl))
        | (refine Chain.skip (a' := ?_) rfl rfl rfl ?_ ?_
           rotate_left 1
           focus (simp only [Act.put, List.setIfInBounds_toArray, List.set_cons_succ, List.set_cons_zero]; try rfl)))
      refine Chain.end_ (fun wz hwz _ => ?_)
      go_wp2_with fail
      go_roundw
      case rel => exact ⟨k + 1, by go_num, by omega, below_trans HB9.out hwz⟩
      case measure => simp [intOf]; omega
    · have HB := Lib.hid (below_trans HB2.out hb)
      clear hb
      go_wp2_with fail
      go_ret
      exact ⟨rfl, HB.out⟩
end Go.Proofs.Ytemmgejaoegpfaa
