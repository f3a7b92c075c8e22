/-
  Layer 11 (wal): Append.
-/
import Derived.Test.YtcopknopifbebaaGreatDoorZWalDJ
import Derived.Test.YtcopknopifbebaaGreatDoorZWrtA
import Derived.Test.YtcopknopifbebaaGreatDoorZWalV

namespace Go.Bar.Wal
open Go.RowKit Go.Bar Go.Bar.Leb Go.Bar.Frm
def appTail (d : Ds) (g1 : Lg) (S : List UInt8) : Nat × Ds × Lg :=
  if (d.append (segN g1.seg) S).1 ≠ 0 then ((d.append (segN g1.seg) S).1, (d.append (segN g1.seg) S).2, ⟨g1.limit, g1.seg, g1.size, (d.append (segN g1.seg) S).1 == 8⟩)
  else (((d.append (segN g1.seg) S).2.sync (segN g1.seg)).1, ((d.append (segN g1.seg) S).2.sync (segN g1.seg)).2, ⟨g1.limit, g1.seg, g1.size + S.length, ((d.append (segN g1.seg) S).2.sync (segN g1.seg)).1 == 8⟩)
theorem wAppend_tail {d : Ds} {g : Lg} {rs : List Rc} (h1 : g.broken = false) (h2 : ¬ laid rs = []) (h3 : ¬ d.free < (laid rs).length) :
    wAppend d g rs = appTail d (if 0 < g.size ∧ g.limit - (laid rs).length < g.size then ⟨g.limit, g.seg + 1, 0, g.broken⟩ else g) (laid rs) := by
  unfold wAppend
  rw [if_neg (by rw [h1]; decide), if_neg h2, if_neg h3]
  rfl
theorem do_room (d : Ds) (act : Ds → Ds) (h : ∀ d, (act d).room = d.room) : (d.do_ act).2.room = d.room := by
  unfold Ds.do_
  simp only
  split
  · exact h _
  · rfl
theorem append_room (d : Ds) (n : Nm) (s : List UInt8) : (d.append n s).2.room = d.room := by
  unfold Ds.append
  split
  · rfl
  · split
    · rfl
    · exact do_room d _ fun _ => rfl
end Go.Bar.Wal
namespace Go.Proofs.YtcopknopifbebaaGreatDoor
open Go.RowKit Go.Bar Go.Bar.Wal Go.Bar.Leb Go.Bar.Frm Go.Conc
attribute [local go_sem] Oper.semAt_some

def FinDk (B : Nat) (w0 : World) (h : Hd) (d : Ds) (_ : Nat → Value) (w' : World) : Prop := DkAt w' h d ∧ Off DTs B w0 w'
def FinLg (B : Nat) (w0 : World) (L : Nat) (h : Hd) (d : Ds) (g : Lg) (_ : Nat → Value) (w' : World) : Prop := DkAt w' h d ∧ LgAt w' L h g ∧ Off LTs B w0 w'
set_option maxHeartbeats 8000000 in
set_option maxRecDepth 10000 in
theorem lAppend_any (w : World) (L : Nat) (h : Hd) (d : Ds) (g : Lg) (B c : Nat) (v : Value) (rs : List Rc) (k : DkAt w h d) (kl : LgAt w L h g) (hE : EnvAt w) (hB : h.Hi B) (hL : B ≤ L) (hB4 : 4 ≤ B) (ha : Acc c d) (hc : c ≤ 100000) (hr : d.room ≤ 10000000)
    (hv : RecsAt w v rs) (hn : rs.length ≤ 20) (hs : ∀ r ∈ rs, r.2.length ≤ 1000) (hg1 : 1 ≤ g.limit) (hg2 : g.limit ≤ 9223372036854775807) (hg3 : g.seg ≤ 1000000) (hg4 : g.size ≤ 1000000000) :
    Calls Tryz.prog 14 #[.pointer (some ⟨L, 0, none⟩), v] w (LgTo B w L h (wAppend d g rs)) := by
  have hu1 : (0 : Int) ≤ d.used := by have := ha.use; omega
  have hu2 := ha.room
  have hsp := Lib.hid (spell_any v rs w hv hn hs)
  have hSl := laid_small rs hs
  have hB0 := hiA k hB
  have hE0 := Lib.hid hE
  obtain ⟨r, hre⟩ : ∃ r, r = wAppend d g rs := ⟨_, rfl⟩
  have hr9 : g.broken = true → r = (9, d, g) := fun hb => by rw [hre]; unfold wAppend; rw [if_pos hb]
  have hr0 : g.broken = false → laid rs = [] → r = (0, d, g) := fun hb he => by rw [hre]; unfold wAppend; rw [if_neg (by rw [hb]; decide), if_pos he]
  have hr7 : g.broken = false → ¬ laid rs = [] → d.free < (laid rs).length → r = (7, d, g) := fun hb he hf => by rw [hre]; unfold wAppend; rw [if_neg (by rw [hb]; decide), if_neg he, if_pos hf]
  have hrt : g.broken = false → ¬ laid rs = [] → ¬ d.free < (laid rs).length → r = appTail d (if 0 < g.size ∧ g.limit - (laid rs).length < g.size then ⟨g.limit, g.seg + 1, 0, g.broken⟩ else g) (laid rs) := fun hb he hf => by rw [hre]; exact wAppend_tail hb he hf
  rw [← hre]
  clear hre
  obtain ⟨S, hS⟩ : ∃ S, S = laid rs := ⟨_, rfl⟩
  rw [← hS] at hsp hSl hr0 hr7 hrt
  clear hS hv hs
  have hSl : S.length ≤ 100000 := by omega
  go_enter Tryz.func14, Tryz.ntmps14
  go_upto_region 2 with (go_at_call 44; refine hsp.out.mono ?_; rintro e w1 ⟨rfl, hb1⟩)
  replace k := k.below hb1
  replace kl := kl.below hb1
  replace hE := hE.below hb1
  have o1 : Off LTs B w w1 := Off.of_below hb1 hB0
  have hB1 : B ≤ w1.heap.size := hiA k hB
  clear hb1 hsp hB0
  replace hr9 := Lib.hid hr9
  replace hr0 := Lib.hid hr0
  replace hr7 := Lib.hid hr7
  replace hrt := Lib.hid hrt
  obtain ⟨c0, c1, c2, c3, c4⟩ := Blk.c5 kl
  cases hbk : g.broken with
  | true =>
    have e := Lib.hid (hr9.out hbk)
    rw [hbk] at c4
    clear hbk
    go_wp2_with fail
    go_ret
    rw [e.out]
    exact ⟨rfl, k, kl, o1⟩
  | false =>
    rw [hbk] at c4
    replace hr0 := Lib.hid (hr0.out hbk)
    replace hr7 := Lib.hid (hr7.out hbk)
    replace hrt := Lib.hid (hrt.out hbk)
    have HBK := Lib.hid hbk
    clear hbk hr9
    by_cases hS0 : S = []
    · have e := Lib.hid (hr0.out hS0)
      subst hS0
      clear hr0 hr7 hrt
      go_wp2_with fail
      go_ret
      rw [e.out]
      exact ⟨rfl, k, kl, o1⟩
    · have hS1 : 0 < S.length := List.length_pos_iff.2 hS0
      have hS2 : ¬ S.length = 0 := by omega
      replace hr7 := Lib.hid (hr7.out hS0)
      replace hrt := Lib.hid (hrt.out hS0)
      clear hr0
      have HF := Lib.hid (free_any w1 h d k (by omega) (by omega) (by omega) hu2)
      by_cases hfree : d.free < S.length
      · have e := Lib.hid (hr7.out hfree)
        clear hr7 hrt
        go_wp2_with (go_at_call 45; refine HF.out.mono ?_; rintro e2 w2 ⟨rfl, q, rfl⟩)
        go_ret
        rw [e.out]
        exact ⟨rfl, k.below (below_draws _ _), kl.below (below_draws _ _), o1.trans (Off.of_below (below_draws _ _) hB1)⟩
      · replace hrt := Lib.hid (hrt.out (by omega))
        clear hr7
        have hfree2 : ((S.length : Nat) : Int) ≤ d.free := by omega
        go_upto_region 8 with (go_at_call 45; refine HF.out.mono ?_; rintro e2 w2 ⟨rfl, q, rfl⟩)
        have hlim : (S.length : Int) ≤ 100000 := by omega
        have hgs : (g.size : Int) ≤ 1000000000 := by omega
        have hgs0 : (0 : Int) ≤ (g.size : Int) := by omega
        replace o1 := o1.trans (Off.of_below (below_draws _ q) hB1)
        replace k := k.below (below_draws _ q)
        replace kl := kl.below (below_draws _ q)
        replace hE := hE.below (below_draws _ q)
        clear c0 c1 c2 c3 c4 HF hB1
        obtain ⟨w2, hw2⟩ : ∃ w2, w2 = w1.drewN q := ⟨_, rfl⟩
        rw [← hw2] at o1 k kl hE ⊢
        clear hw2
        have hcut : (¬ 0 < g.size ∧ decide ((0 : Int) < (g.size : Int)) = false) ∨ (0 < g.size ∧ decide ((0 : Int) < (g.size : Int)) = true ∧ ¬ g.limit - S.length < g.size ∧ decide (g.limit - (S.length : Int) < (g.size : Int)) = false) ∨ (0 < g.size ∧ decide ((0 : Int) < (g.size : Int)) = true ∧ g.limit - S.length < g.size ∧ decide (g.limit - (S.length : Int) < (g.size : Int)) = true) := by
          by_cases h1 : 0 < g.size
          · by_cases h2 : g.limit - S.length < g.size
            · exact .inr (.inr ⟨h1, decide_eq_true (by omega), h2, decide_eq_true h2⟩)
            · exact .inr (.inl ⟨h1, decide_eq_true (by omega), h2, decide_eq_false h2⟩)
          · exact .inl ⟨h1, decide_eq_false (by omega)⟩
        have HKL := Lib.hid kl
        obtain ⟨c0, c1, c2, c3, c4⟩ := Blk.c5 kl
        have f2 := Blk.free kl 2
        have f3 := Blk.free kl 3
        rcases hcut with ⟨hz, hd1⟩ | ⟨hz, hd1, hy, hd2⟩ | ⟨hz, hd1, hy, hd2⟩
        focus
          rw [if_neg (fun e => hz e.1)] at hrt
          have hdn : decide (0 < g.size) = false := decide_eq_false hz
          have hz0 : g.size = 0 := by omega
          clear hz
          go_quiet (fail)
          go_upto_region 10 with fail
          obtain ⟨wA, hwA⟩ : ∃ wA, wA = w2.drewN nq := ⟨_, rfl⟩
          have hbA : Below w2.heap.size w2 wA := by rw [hwA]; exact below_draws _ _
          rw [← hwA]
          have kA := k.below hbA
          have lA := LgAt.below HKL.out hbA
          have hEA := hE.below hbA
          have oA := o1.trans (Off.of_below hbA (hiA k hB))
          obtain ⟨gA, hgA⟩ : ∃ gA, gA = g := ⟨_, rfl⟩
          rw [← hgA] at lA hrt
          have hsA : gA.seg ≤ 1000001 := by rw [hgA]; omega
          have hzA : gA.size ≤ 1000000000 := by rw [hgA]; omega
          have hkA := Lib.hid (show gA.broken = false by rw [hgA]; exact HBK.out)
          clear hgA hwA hbA k HKL hE o1
        rotate_left 1
        focus
          rw [if_neg (fun e => hy e.2)] at hrt
          clear hy
          have hdn : decide (0 < g.size) = true := decide_eq_true hz
          go_quiet (fail)
          go_upto_region 10 with fail
          clear hd2
          obtain ⟨wA, hwA⟩ : ∃ wA, wA = w2.drewN nq := ⟨_, rfl⟩
          have hbA : Below w2.heap.size w2 wA := by rw [hwA]; exact below_draws _ _
          rw [← hwA]
          have kA := k.below hbA
          have lA := LgAt.below HKL.out hbA
          have hEA := hE.below hbA
          have oA := o1.trans (Off.of_below hbA (hiA k hB))
          obtain ⟨gA, hgA⟩ : ∃ gA, gA = g := ⟨_, rfl⟩
          rw [← hgA] at lA hrt
          have hsA : gA.seg ≤ 1000001 := by rw [hgA]; omega
          have hzA : gA.size ≤ 1000000000 := by rw [hgA]; omega
          have hkA := Lib.hid (show gA.broken = false by rw [hgA]; exact HBK.out)
          clear hgA hwA hbA k HKL hE o1
        rotate_left 1
        focus
          rw [if_pos ⟨hz, hy⟩] at hrt
          clear hy
          have hdn : decide (0 < g.size) = true := decide_eq_true hz
          go_quiet (fail)
          go_upto_region 10 with fail
          clear hd2
          have hbA : Below w2.heap.size w2 (w2.drewN nq) := below_draws _ _
          have kB := k.below hbA
          have lB := LgAt.below HKL.out hbA
          have oB := o1.trans (Off.of_below hbA (hiA k hB))
          have hEB := hE.below hbA
          obtain ⟨wB, hwB⟩ : ∃ wB, wB = w2.drewN nq := ⟨_, rfl⟩
          rw [← hwB] at kB lB oB hEB ⊢
          have lB : Blk wB L 82 #[.pointer (some ⟨h.D, 0, none⟩), .int .i64 g.limit, .int .i64 (g.seg : Nat), .int .i64 (g.size : Nat), .bool g.broken] := lB
          have lC := (lB.set 2 (.int .i64 ((g.seg : Int) + 1))).set 3 (.int .i64 0)
          have kC := (kB.other lB ndk_log 2 (.int .i64 ((g.seg : Int) + 1))).other (lB.set 2 (.int .i64 ((g.seg : Int) + 1))) ndk_log 3 (.int .i64 0)
          have oC := (oB.trans (Off.set lB (.inr rfl) hL 2 (.int .i64 ((g.seg : Int) + 1)))).trans (Off.set (lB.set 2 (.int .i64 ((g.seg : Int) + 1))) (.inr rfl) hL 3 (.int .i64 0))
          obtain ⟨wA, hwA⟩ : ∃ wA, wA = (wB.setCell ⟨L, 2, none⟩ (.int .i64 ((g.seg : Int) + 1))).setCell ⟨L, 3, none⟩ (.int .i64 0) := ⟨_, rfl⟩
          have hEA : EnvAt wA := hE0.out.bel (by rw [hwA]; exact oC.bel) hB4
          rw [← hwA] at lC kC oC ⊢
          obtain ⟨gA, hgA⟩ : ∃ gA : Lg, gA = ⟨g.limit, g.seg + 1, 0, g.broken⟩ := ⟨_, rfl⟩
          have lA : LgAt wA L h gA := by rw [hgA]; exact lC
          have kA := kC
          have oA := oC
          rw [← hgA] at hrt
          have hsA : gA.seg ≤ 1000001 := by rw [hgA]; show g.seg + 1 ≤ _; omega
          have hzA : gA.size ≤ 1000000000 := by rw [hgA]; show 0 ≤ _; omega
          have hkA := Lib.hid (show gA.broken = false by rw [hgA]; exact HBK.out)
          clear hgA hwA hbA k HKL hE o1 lC kC oC lB kB oB hEB hwB
        rotate_left 1
        all_goals
          clear hd1 hdn c0 c1 c2 c3 c4 f2 f3
          obtain ⟨N, hN⟩ : ∃ N, N = segN gA.seg := ⟨_, rfl⟩
          have hNl : N.length ≤ 40 := by rw [hN]; exact good_len (segN_good (by omega))
          have hnm := fun wx (hw : Below wA.heap.size wA wx) => name_any wx (hEA.below hw) gA.seg (by omega)
          have happ := fun wx (hw : Below wA.heap.size wA wx) => dAppend_any wx h d B c (kA.below hw) hB ha (by omega) (by omega) N S (by unfold maxLen; omega) (by unfold maxLen; omega)
          obtain ⟨ap, hap⟩ : ∃ ap, ap = d.append N S := ⟨_, rfl⟩
          have haA : Wal.Acc (c + 1) ap.2 := by rw [hap]; exact ha.append N S
          have hrA : ap.2.room = d.room := by rw [hap]; exact append_room d N S
          unfold appTail at hrt
          rw [← hN, ← hap] at hrt
          rw [← hN] at hnm
          rw [← hap] at happ
          have hNN := Lib.hid hN
          clear hN hap ha
          have HNM := Lib.hid hnm
          have HAPP := Lib.hid happ
          have HLA := Lib.hid lA
          have HB := Lib.hid (hiA kA hB)
          clear hnm happ lA
          have hstT : ∀ k v w w', Below w.heap.size w w' → Dv.factOf ([(3, ((fun v => v = (.pointer (some ⟨h.D, 0, none⟩))), noFact, 3)), (7, ((fun v => v = (.int .i64 (gA.seg : Nat))), noFact, 7)), (8, ((fun v => v = (.string (bs N))), noFact, 8)), (10, ((fun v => v = .int .i64 (ap.1 : Nat)), noFact, 10))] : List (Nat × Dv.Kp)) k v w → Dv.factOf ([(3, ((fun v => v = (.pointer (some ⟨h.D, 0, none⟩))), noFact, 3)), (7, ((fun v => v = (.int .i64 (gA.seg : Nat))), noFact, 7)), (8, ((fun v => v = (.string (bs N))), noFact, 8)), (10, ((fun v => v = .int .i64 (ap.1 : Nat)), noFact, 10))] : List (Nat × Dv.Kp)) k v w' := Dv.fact_st (by
            simp only [List.forall_mem_cons, List.not_mem_nil, false_imp_iff, implies_true, and_true]
            refine ⟨?_, ?_, ?_, ?_⟩
            · exact fun _ _ _ _ _ => trivial
            · exact fun _ _ _ _ _ => trivial
            · exact fun _ _ _ _ _ => trivial
            · exact fun _ _ _ _ _ => trivial)
          have htrT : ∀ x ∈ ([(3, ((fun v => v = (.pointer (some ⟨h.D, 0, none⟩))), noFact, 3)), (7, ((fun v => v = (.int .i64 (gA.seg : Nat))), noFact, 7)), (8, ((fun v => v = (.string (bs N))), noFact, 8)), (10, ((fun v => v = .int .i64 (ap.1 : Nat)), noFact, 10))] : List (Nat × Dv.Kp)), (([(3, ((fun v => v = (.pointer (some ⟨h.D, 0, none⟩))), noFact, 3)), (7, ((fun v => v = (.int .i64 (gA.seg : Nat))), noFact, 7)), (8, ((fun v => v = (.string (bs N))), noFact, 8)), (10, ((fun v => v = .int .i64 (ap.1 : Nat)), noFact, 10))] : List (Nat × Dv.Kp)).lookup x.2.2.2).isSome = true := by
            simp only [List.forall_mem_cons, List.not_mem_nil, false_imp_iff, implies_true, and_true]
            exact ⟨by kernel_rfl, by kernel_rfl, by kernel_rfl, by kernel_rfl⟩
          refine Dv.wp_region_two (L := ([(3, ((fun v => v = (.pointer (some ⟨h.D, 0, none⟩))), noFact, 3)), (7, ((fun v => v = (.int .i64 (gA.seg : Nat))), noFact, 7)), (8, ((fun v => v = (.string (bs N))), noFact, 8)), (10, ((fun v => v = .int .i64 (ap.1 : Nat)), noFact, 10))] : List (Nat × Dv.Kp))) (m := 10) (Fin := (FinDk B wA h ap.2)) (by kernel_rfl) 94 (by kernel_rfl) rfl (by kernel_rfl) ?_ ?_ ?_
          · simp only [List.forall_mem_cons, List.not_mem_nil, false_imp_iff, implies_true, and_true]
            exact ⟨⟨_, rfl⟩, ⟨_, rfl⟩, ⟨_, rfl⟩, ⟨_, rfl⟩⟩
          · exact (fun vs vs' w' _ hf => hf)
          repeat (first
            | (refine Dv.Chain.step (v := ?_) (a' := ?_) rfl rfl rfl ?_ ?_ ?_; rotate_left 2; (focus (intro w; go_simp; try with_reducible rfl)); focus (simp only [Act.put, pqA, pqS, pqZ]; try rfl))
            | (refine Dv.XT.call (i := 3) (a' := ?_) _ _ rfl (by decide) hstT rfl rfl (fun wx hw hF => ?_) htrT ?_ ?_; rotate_left 1; (focus (obtain ⟨g0, g1, g2, g3, g4⟩ := Blk.c5 ((LgAt.below HLA.out hw)); go_simp; first | exact ⟨rfl, rB⟩ | exact rB)); focus (simp only [Act.put, pqA, pqS, pqZ]; try rfl))
            | (refine Dv.XT.call (i := 7) (a' := ?_) _ _ rfl (by decide) hstT rfl rfl (fun wx hw hF => ?_) htrT ?_ ?_; rotate_left 1; (focus (obtain ⟨g0, g1, g2, g3, g4⟩ := Blk.c5 ((LgAt.below HLA.out hw)); go_simp; first | exact ⟨rfl, rB⟩ | exact rB)); focus (simp only [Act.put, pqA, pqS, pqZ]; try rfl))
            | (refine Dv.XT.call (i := 8) (a' := ?_) _ _ rfl (by decide) hstT rfl rfl (fun wx hw hF => ?_) htrT ?_ ?_; rotate_left 1; (focus (go_simp; (with_reducible refine (HNM.out wx hw).mono ?_); exact (fun e w' ⟨h1, h2⟩ => by subst h1; exact ⟨rfl, h2⟩))); focus (simp only [Act.put, pqA, pqS, pqZ]; try rfl))
            | (refine Dv.XT.last (i := 10) _ _ _ rfl rfl (by kernel_rfl) rfl rfl (fun vs wx hw hF => ?_) (fun v10 hv10 a' ha => ?_); (focus (go_simp); (with_reducible refine (HAPP.out wx hw).mono ?_); (rintro e w' ⟨rfl, hd, ho⟩); (exact ⟨rfl, hd, (Off.of_below hw HB.out).trans ho⟩)); obtain rfl := hv10; simp only [Act.put, pqA, pqS, pqZ] at ha; subst ha)
            | (refine Dv.Chain.skip' (a' := ?_) rfl rfl rfl ?_ ?_; rotate_left 1; focus (simp only [Act.put, pqA, pqS, pqZ]; try rfl)))
          refine Dv.XT.end_ (by decide) (fun vs w10 hv hfin => ?_)
          obtain ⟨k10, o10⟩ := hfin
          have l10 := LgAt.off HLA.out o10
          replace o10 := oA.trans (o10.wide dlt)
          have hE10 : EnvAt w10 := hE0.out.bel o10.bel hB4
          clear hv HLA HNM HAPP kA oA hEA HB
          by_cases hap0 : ap.1 = 0
          · have hap1 : Hid (ap.1 = 0) := hap0
            have e : Hid (r = ((ap.2.sync N).1, (ap.2.sync N).2, (⟨gA.limit, gA.seg, gA.size + S.length, (ap.2.sync N).1 == 8⟩ : Lg))) := by have := hrt.out; rwa [if_neg (fun h => h hap0)] at this
            clear hrt
            obtain ⟨sy, hsy⟩ : ∃ sy, sy = ap.2.sync N := ⟨_, rfl⟩
            rw [← hsy] at e
            have l10 : Blk w10 L 82 #[.pointer (some ⟨h.D, 0, none⟩), .int .i64 gA.limit, .int .i64 (gA.seg : Nat), .int .i64 (gA.size : Nat), .bool gA.broken] := l10
            obtain ⟨c0, c1, c2, c3, c4⟩ := Blk.c5 l10
            have f3 := l10.free 3
            have hzi : (gA.size : Int) ≤ 1000000000 := by omega
            go_upto_region 14 with fail
            have k11 := k10.other l10 ndk_log 3 (.int .i64 ((gA.size : Int) + (S.length : Int)))
            have o11 := o10.trans (Off.set l10 (.inr rfl) hL 3 (.int .i64 ((gA.size : Int) + (S.length : Int))))
            have l11 : LgAt (w10.setCell ⟨L, 3, none⟩ (.int .i64 ((gA.size : Int) + (S.length : Int)))) L h ⟨gA.limit, gA.seg, gA.size + S.length, gA.broken⟩ := by
              have := l10.set 3 (.int .i64 ((gA.size : Int) + (S.length : Int)))
              unfold LgAt
              simp only [Int.natCast_add]
              exact this
            obtain ⟨w11, hw11⟩ : ∃ w11, w11 = w10.setCell ⟨L, 3, none⟩ (.int .i64 ((gA.size : Int) + (S.length : Int))) := ⟨_, rfl⟩
            rw [← hw11] at k11 o11 l11 ⊢
            have hE11 : EnvAt w11 := hE0.out.bel o11.bel hB4
            clear hw11 l10 k10 o10 hE10 c0 c1 c2 c3 c4 f3
            have hnm := fun wx (hw : Below w11.heap.size w11 wx) => name_any wx (hE11.below hw) gA.seg (by omega)
            have hsync := fun wx (hw : Below w11.heap.size w11 wx) => dSync_any wx h ap.2 B (c + 1) (k11.below hw) hB haA (by omega) (by omega) N (by unfold maxLen; omega)
            rw [← hNN.out] at hnm
            simp only [← hsy] at hsync
            have hks : (⟨gA.limit, gA.seg, gA.size + S.length, gA.broken⟩ : Lg).broken = false := hkA.out
            have HSK := Lib.hid (fun wx (k : LgAt wx L h ⟨gA.limit, gA.seg, gA.size + S.length, gA.broken⟩) => sick_any wx L h _ sy.1 k hks)
            have HNM := Lib.hid hnm
            have HSY := Lib.hid hsync
            have HLA := Lib.hid l11
            have HB := Lib.hid (hiA k11 hB)
            clear hnm hsync hsy l11 hks
            have hstT : ∀ k v w w', Below w.heap.size w w' → Dv.factQ ([(4, ((fun v => v = (.pointer (some ⟨h.D, 0, none⟩))), noFact)), (8, ((fun v => v = (.int .i64 (gA.seg : Nat))), noFact)), (9, ((fun v => v = (.string (bs N))), noFact)), (10, ((fun v => v = (.int .i64 (sy.1 : Nat))), noFact)), (11, ((fun v => v = (.int .i64 (sy.1 : Nat))), noFact))] : List (Nat × Dv.Kq)) k v w → Dv.factQ ([(4, ((fun v => v = (.pointer (some ⟨h.D, 0, none⟩))), noFact)), (8, ((fun v => v = (.int .i64 (gA.seg : Nat))), noFact)), (9, ((fun v => v = (.string (bs N))), noFact)), (10, ((fun v => v = (.int .i64 (sy.1 : Nat))), noFact)), (11, ((fun v => v = (.int .i64 (sy.1 : Nat))), noFact))] : List (Nat × Dv.Kq)) k v w' := Dv.factQ_st (by
              simp only [List.forall_mem_cons, List.not_mem_nil, false_imp_iff, implies_true, and_true]
              exact ⟨fun _ _ _ _ _ => trivial, fun _ _ _ _ _ => trivial, fun _ _ _ _ _ => trivial, fun _ _ _ _ _ => trivial, fun _ _ _ _ _ => trivial⟩)
            refine Dv.wp_region_piv (L := ([(4, ((fun v => v = (.pointer (some ⟨h.D, 0, none⟩))), noFact)), (8, ((fun v => v = (.int .i64 (gA.seg : Nat))), noFact)), (9, ((fun v => v = (.string (bs N))), noFact)), (10, ((fun v => v = (.int .i64 (sy.1 : Nat))), noFact)), (11, ((fun v => v = (.int .i64 (sy.1 : Nat))), noFact))] : List (Nat × Dv.Kq))) (p := 10) (m := 11) (Mid := (FinDk B w11 h sy.2)) (Fin := (FinLg B w11 L h sy.2 ⟨gA.limit, gA.seg, gA.size + S.length, sy.1 == 8⟩)) (by kernel_rfl) 94 (by kernel_rfl) rfl (by kernel_rfl) (by kernel_rfl) ?_ ?_ ?_ ?_
            · simp only [List.forall_mem_cons, List.not_mem_nil, false_imp_iff, implies_true, and_true]
              exact ⟨⟨_, rfl⟩, ⟨_, rfl⟩, ⟨_, rfl⟩, ⟨_, rfl⟩, ⟨_, rfl⟩⟩
            · exact (fun vs vs' w' _ hf => hf)
            · exact (fun vs vs' w' _ hf => hf)
            repeat (first
              | (refine Dv.Chain.step (v := ?_) (a' := ?_) rfl rfl rfl ?_ ?_ ?_; rotate_left 2; (focus (intro w; go_simp; try with_reducible rfl)); focus (simp only [Act.put, pqA, pqS, pqZ]; try rfl))
              | (refine Dv.XP.make (i := 4) _ _ rfl (by decide) (by decide) (by kernel_rfl) hstT rfl rfl (fun wx hw hF => ?_) (fun v4 hv4 a' ha => ?_); (focus (obtain ⟨g0, g1, g2, g3, g4⟩ := Blk.c5 (LgAt.below HLA.out hw)); (go_simp); (first | exact ⟨Below.refl _ _, trivial⟩ | exact Below.refl _ _)); obtain rfl := hv4; simp only [Act.put, pqA, pqS, pqZ] at ha; subst ha)
              | (refine Dv.XP.make (i := 8) _ _ rfl (by decide) (by decide) (by kernel_rfl) hstT rfl rfl (fun wx hw hF => ?_) (fun v8 hv8 a' ha => ?_); (focus (obtain ⟨g0, g1, g2, g3, g4⟩ := Blk.c5 (LgAt.below HLA.out hw)); (go_simp); (first | exact ⟨Below.refl _ _, trivial⟩ | exact Below.refl _ _)); obtain rfl := hv8; simp only [Act.put, pqA, pqS, pqZ] at ha; subst ha)
              | (refine Dv.XP.make (i := 9) _ _ rfl (by decide) (by decide) (by kernel_rfl) hstT rfl rfl (fun wx hw hF => ?_) (fun v9 hv9 a' ha => ?_); (focus (go_simp); (with_reducible refine (HNM.out wx hw).mono ?_); (rintro e w' ⟨rfl, hb⟩); (first | exact ⟨rfl, hb, trivial⟩ | exact ⟨hb, trivial⟩)); obtain rfl := hv9; simp only [Act.put, pqA, pqS, pqZ] at ha; subst ha)
              | (refine Dv.XP.pivot (i := 10) _ _ rfl rfl (by decide) rfl rfl (fun vs wx hw hF => ?_) (fun v10 hv10 a' ha => ?_); (focus (go_simp); (with_reducible refine (HSY.out wx hw).mono ?_); (rintro e w' ⟨rfl, hd, ho⟩); (exact ⟨rfl, hd, (Off.of_below hw HB.out).trans ho⟩)); obtain rfl := hv10; simp only [Act.put, pqA, pqS, pqZ] at ha; subst ha)
              | (refine Dv.XP.last (i := 11) _ _ rfl rfl (by decide) (by kernel_rfl) rfl rfl (fun vs wx hM hF => ?_) (fun v11 hv11 a' ha => ?_); (focus (obtain ⟨kM, oM⟩ := hM); (have lM := LgAt.off HLA.out oM); (go_simp); (with_reducible refine (HSK.out wx lM).mono ?_); (rintro e w' ⟨rfl, rfl⟩); (exact ⟨rfl, kM.other lM ndk_log 4 _, Blk.set lM 4 _, (oM.wide dlt).trans (Off.set lM (.inr rfl) hL 4 _)⟩)); obtain rfl := hv11; simp only [Act.put, pqA, pqS, pqZ] at ha; subst ha)
              | (refine Dv.XP.skip (a' := ?_) rfl rfl rfl ?_ ?_; rotate_left 1; focus (simp only [Act.put, pqA, pqS, pqZ]; try rfl)))
            refine Dv.XP.end_ (by decide) (fun vs w12 hv hfin => ?_)
            obtain ⟨k12, l12, o12⟩ := hfin
            clear hv
            go_wp2_with fail
            go_ret
            rw [e.out]
            exact ⟨rfl, k12, l12, o11.trans o12⟩
          · have e : Hid (r = (ap.1, ap.2, (⟨gA.limit, gA.seg, gA.size, ap.1 == 8⟩ : Lg))) := by have := hrt.out; rwa [if_pos hap0] at this
            clear hrt
            have hap2 : ¬ (ap.1 : Int) = 0 := by omega
            have HSK := Lib.hid (sick_any w10 L h gA ap.1 l10 hkA.out)
            have HL := Lib.hid l10
            go_wp2_with (go_at_call 46; refine HSK.out.mono ?_; rintro e1 w11 ⟨rfl, rfl⟩)
            go_ret
            rw [e.out]
            exact ⟨rfl, k10.other HL.out ndk_log 4 _, Blk.set HL.out 4 _, o10.trans (Off.set HL.out (.inr rfl) hL 4 _)⟩
end Go.Proofs.YtcopknopifbebaaGreatDoor

namespace Go.Bar.Wal
open Go.RowKit Go.Bar
theorem sync_room (d : Ds) (n : Nm) : (d.sync n).2.room = d.room := by
  unfold Ds.sync
  split
  · rfl
  · exact do_room d _ fun _ => rfl
theorem truncate_room (d : Ds) (n : Nm) (k : Nat) : (d.truncate n k).2.room = d.room := by
  unfold Ds.truncate
  split
  · rfl
  · split
    · rfl
    · exact do_room d _ fun _ => rfl
end Go.Bar.Wal
namespace Go.Proofs.YtcopknopifbebaaGreatDoor
open Go.RowKit Go.Bar Go.Bar.Wal Go.Bar.Leb Go.Bar.Frm Go.Conc
attribute [local go_sem] Oper.semAt_some

end Go.Proofs.YtcopknopifbebaaGreatDoor

namespace Go.Bar
open Go.RowKit
end Go.Bar
namespace Go.Bar.Wal
open Go.RowKit Go.Bar Go.Bar.Leb Go.Bar.Frm Go.Proofs
theorem segs_small {c : Nat} {d : Ds} (ha : Acc c d) {n : Nat} (hn : n ∈ segsOf d) : n ≤ 1099511627776 ∧ (segN n).length ≤ 40 := by
  obtain ⟨p, hp, e, h0⟩ := segs_mem.1 hn
  have h1 : 0 < numN p.1 := by omega
  have h2 := numN_seg2 h1
  rw [e] at h2
  refine ⟨?_, by rw [h2]; exact ha.nm p hp⟩
  rw [← e]
  unfold numN
  split
  · exact numOf_le _
  · exact Nat.zero_le _
end Go.Bar.Wal
namespace Go.Proofs.YtcopknopifbebaaGreatDoor
open Go.RowKit Go.Bar Go.Bar.Wal Go.Bar.Leb Go.Bar.Frm Go.Conc
attribute [local go_sem] Oper.semAt_some

theorem frcs_one (rs : List Rc) : ∀ u ∈ frcs rs, u.oneCell' = true := fun u hu => by
  unfold frcs at hu
  simp only [List.mem_flatMap] at hu
  obtain ⟨r, _, hu⟩ := hu
  simp only [List.mem_cons, List.not_mem_nil, or_false] at hu
  rcases hu with rfl | rfl <;> rfl
end Go.Proofs.YtcopknopifbebaaGreatDoor

namespace Go.Bar.Wal
open Go.RowKit Go.Bar Go.Bar.Leb Go.Bar.Frm

theorem whole_eq : ∀ (n : Nat) (s : List UInt8), s.length ≤ n → laid (recs s) ++ left s = s ∧ ∀ r ∈ recs s, r.2.length ≤ 1048576
  | 0, s, h => by
    obtain rfl := List.eq_nil_of_length_eq_zero (Nat.le_zero.1 h)
    obtain ⟨h1, h2⟩ := recs_stop next_nil
    rw [h1, h2]
    exact ⟨rfl, fun r hr => by cases hr⟩
  | n + 1, s, h => by
    by_cases he : (next s).2.2 = 0
    · obtain ⟨h1, h2⟩ := recs_go he
      obtain ⟨h3, h4⟩ := next_one s he
      have h5 := next_left s he
      obtain ⟨h6, h7⟩ := whole_eq n (next s).2.1 (by omega)
      rw [h1, h2, laid_cons, List.append_assoc, h6]
      refine ⟨h3, fun r hr => ?_⟩
      rcases List.mem_cons.1 hr with rfl | hr
      · exact h4
      · exact h7 r hr
    · obtain ⟨h1, h2⟩ := recs_stop he
      rw [h1, h2]
      exact ⟨rfl, fun r hr => by cases hr⟩
def Wh (s : List UInt8) : List UInt8 := s.take (s.length - (left s).length)
theorem wh_eq (s : List UInt8) : Wh s = laid (recs s) := by
  have h := (whole_eq s.length s (Nat.le_refl _)).1
  have hl : s.length - (left s).length = (laid (recs s)).length := by
    have := congrArg List.length h
    rw [List.length_append] at this
    omega
  have h2 := congrArg (List.take (laid (recs s)).length) h
  rw [List.take_left] at h2
  unfold Wh
  rw [hl]
  exact h2.symm
theorem wh_recs (s : List UInt8) : recs (Wh s) = recs s := by
  have h := recs_laid (recs s) [] (whole_eq s.length s (Nat.le_refl _)).2 next_nil
  rw [List.append_nil] at h
  rw [wh_eq]
  exact h.1
theorem wh_len (s : List UInt8) : (Wh s).length = s.length - (left s).length := by
  unfold Wh
  rw [List.length_take]; omega

theorem names_put {fs : Fs} {n : Nm} (h : Srt fs) (hf : (fnd fs n).isSome = true) (f : Fi) : (fput fs n f).map (·.1) = fs.map (·.1) := by
  refine srt_unique (by rw [List.pairwise_map]; exact h.put n f) (by rw [List.pairwise_map]; exact h) fun x => ?_
  rw [← fnd_some_iff, ← fnd_some_iff, fnd_put]
  by_cases e : x = n
  · subst e; rw [if_pos rfl, hf]; simp
  · rw [if_neg e]
structure Sg (fs fs' : Fs) : Prop where
  nm : fs'.map (·.1) = fs.map (·.1)
  rc : ∀ x f, fnd fs x = some f → ∃ f', fnd fs' x = some f' ∧ recs f'.s = recs f.s ∧ (f.sure = f.s.length → f'.sure = f'.s.length)
theorem Sg.refl (fs : Fs) : Sg fs fs := ⟨rfl, fun _ f h => ⟨f, h, rfl, fun h => h⟩⟩
theorem Sg.trans {a b c : Fs} (h : Sg a b) (k : Sg b c) : Sg a c := ⟨k.nm.trans h.nm, fun x f hf => by
  obtain ⟨f1, h1, h2, h3⟩ := h.rc x f hf
  obtain ⟨f2, h4, h5, h6⟩ := k.rc x f1 h1
  exact ⟨f2, h4, h5.trans h2, fun e => h6 (h3 e)⟩⟩
theorem Sg.put {fs : Fs} {n : Nm} {f : Fi} (h : Srt fs) (hf : fnd fs n = some f) : Sg fs (fput fs n ⟨Wh f.s, (Wh f.s).length⟩) :=
  ⟨names_put h (by rw [hf]; rfl) _, fun x g hg => by
    rw [fnd_put]
    by_cases e : x = n
    · subst e
      rw [hf] at hg
      injection hg with hg
      subst hg
      rw [if_pos rfl]
      exact ⟨_, rfl, wh_recs f.s, fun _ => rfl⟩
    · rw [if_neg e]
      exact ⟨g, hg, rfl, fun h => h⟩⟩
theorem Sg.some {fs fs' : Fs} (h : Sg fs fs') {x : Nm} {f : Fi} (hf : fnd fs x = some f) : ∃ f', fnd fs' x = Option.some f' := by
  obtain ⟨f', h1, _⟩ := h.rc x f hf
  exact ⟨f', h1⟩
theorem Sg.read {d d' : Ds} (h : Sg d.fs d'.fs) {x : Nm} {f : Fi} (hf : fnd d.fs x = Option.some f) : recs (d'.read x).1 = recs (d.read x).1 := by
  obtain ⟨f', h1, h2, _⟩ := h.rc x f hf
  unfold Ds.read
  rw [hf, h1]
  exact h2

theorem openS_calm {d : Ds} {n : Nat} {f : Fi} (hz : d.fz = Fz.none_) (hf : fnd d.fs (segN n) = some f) : ∃ d', openS d n = (0, d') ∧ d'.fs = fput d.fs (segN n) ⟨Wh f.s, (Wh f.s).length⟩ ∧ d'.fz = Fz.none_ ∧ d'.room = d.room := by
  have hr : (d.read (segN n)).1 = f.s := by unfold Ds.read; rw [hf]
  unfold openS
  rw [hr]
  by_cases h : f.s.length - (left f.s).length < f.s.length
  · rw [if_pos h]
    unfold Ds.truncate
    rw [hf]
    simp only
    rw [if_neg (by omega), do_none _ _ hz]
    refine ⟨_, rfl, ?_, hz, rfl⟩
    show fput d.fs (segN n) ⟨f.s.take (f.s.length - (left f.s).length), f.s.length - (left f.s).length⟩ = _
    rw [wh_len]
    rfl
  · rw [if_neg h]
    unfold Ds.sync
    rw [hf]
    simp only
    rw [do_none _ _ hz]
    refine ⟨_, rfl, ?_, hz, rfl⟩
    have hl : (left f.s).length = 0 := by have := left_le f.s; omega
    have hw : Wh f.s = f.s := by unfold Wh; rw [hl, Nat.sub_zero, List.take_length]
    rw [hw]
theorem openL_free : ∀ (l : List Nat) (d : Ds) (all : List Rc) (seg size : Nat), Srt d.fs → d.fz = Fz.none_ → (∀ n ∈ l, ∃ f, fnd d.fs (segN n) = some f) →
    ∃ d' seg' size', openL l d all seg size = (0, d', all ++ l.flatMap (fun n => recs (d.read (segN n)).1), seg', size') ∧ d'.fz = Fz.none_ ∧ d'.room = d.room ∧ Srt d'.fs ∧ Sg d.fs d'.fs ∧ ∀ n ∈ l, ∀ f, fnd d'.fs (segN n) = some f → f.sure = f.s.length
  | [], d, all, seg, size, hs, hz, _ => ⟨d, seg, size, by rw [List.flatMap_nil, List.append_nil]; rfl, hz, rfl, hs, Sg.refl _, fun n hn => by cases hn⟩
  | n :: l, d, all, seg, size, hs, hz, hl => by
    obtain ⟨f, hf⟩ := hl n (List.mem_cons_self ..)
    obtain ⟨d1, h1, h2, h3, h4⟩ := openS_calm hz hf
    have hsg : Sg d.fs d1.fs := by rw [h2]; exact Sg.put hs hf
    have hs1 : Srt d1.fs := by rw [h2]; exact hs.put _ _
    obtain ⟨d2, seg2, size2, g1, g2, g3, g4, g5, g6⟩ := openL_free l d1 (all ++ recs (d.read (segN n)).1) n ((d.read (segN n)).1.length - (left (d.read (segN n)).1).length) hs1 h3 (fun m hm => by
      obtain ⟨f', hf'⟩ := hl m (List.mem_cons_of_mem _ hm)
      exact hsg.some hf')
    have hr2 : (d.read (segN n)).2 = 0 := by unfold Ds.read; rw [hf]
    refine ⟨d2, seg2, size2, ?_, g2, g3.trans h4, g4, hsg.trans g5, fun m hm f' hf' => ?_⟩
    · unfold openL
      rw [if_neg (by rw [hr2]; simp), h1, if_neg (by simp), g1, List.flatMap_cons, List.append_assoc]
      have : l.flatMap (fun n => recs (d1.read (segN n)).1) = l.flatMap (fun n => recs (d.read (segN n)).1) := by
        have hh : ∀ m : List Nat, (∀ x ∈ m, x ∈ l) → m.flatMap (fun n => recs (d1.read (segN n)).1) = m.flatMap (fun n => recs (d.read (segN n)).1) := by
          intro m hm
          induction m with
          | nil => rfl
          | cons x m ih =>
            obtain ⟨f', hf'⟩ := hl x (List.mem_cons_of_mem _ (hm x (List.mem_cons_self ..)))
            rw [List.flatMap_cons, List.flatMap_cons, ih fun y hy => hm y (List.mem_cons_of_mem _ hy), hsg.read hf']
        exact hh l fun _ h => h
      rw [this]
    · rcases List.mem_cons.1 hm with rfl | hm
      · have e1 : fnd d1.fs (segN m) = some ⟨Wh f.s, (Wh f.s).length⟩ := by rw [h2, fnd_put, if_pos rfl]
        obtain ⟨f2, e2, _, e3⟩ := g5.rc _ _ e1
        rw [hf'] at e2
        injection e2 with e2
        rw [e2]
        exact e3 rfl
      · exact g6 m hm f' hf'
theorem opens {d : Ds} (hs : Srt d.fs) (hz : d.fz = Fz.none_) (limit : Int) (_hk : ∀ p ∈ d.fs, p.2.sure ≤ p.2.s.length) : ∃ d' g, wOpen d limit = (0, d', g, since (refAll d.fs)) ∧ d'.fz = Fz.none_ ∧ Srt d'.fs ∧ ∀ cs, (∀ p ∈ d'.fs, p.2.sure ≤ p.2.s.length) → refAll (d'.crash cs).fs = refAll d.fs := by
  have hseg : ∀ n ∈ segsOf d, ∃ f, fnd d.fs (segN n) = some f := fun n hn => by
    obtain ⟨p, hp, e, h0⟩ := segs_mem.1 hn
    subst e
    rw [numN_seg2 h0]
    exact ⟨p.2, hs.fnd (show (p.1, p.2) ∈ d.fs from hp)⟩
  obtain ⟨d', seg', size', h1, h2, h3, h4, h5, h6⟩ := openL_free (segsOf d) d [] 1 0 hs hz hseg
  rw [List.nil_append, segs_read hs] at h1
  refine ⟨d', ⟨max limit 1, seg', size', false⟩, ?_, h2, h4, fun cs hk' => ?_⟩
  · unfold wOpen
    rw [h1]
    simp
  · have hcn := crash_names d'.fs cs
    have hsc : Srt (d'.crash cs).fs := by
      have : ((d'.crash cs).fs.map (·.1)).Pairwise (· < ·) := by
        show ((crashF d'.fs cs).map (·.1)).Pairwise (· < ·)
        rw [hcn, List.pairwise_map]; exact h4
      rw [List.pairwise_map] at this
      exact this
    have hnm : (d'.crash cs).fs.map (·.1) = d.fs.map (·.1) := hcn.trans h5.nm
    have hsq : segsOf (d'.crash cs) = segsOf d := by unfold segsOf Ds.list; rw [hnm]
    rw [← segs_read hsc, ← segs_read hs, hsq]
    have hh : ∀ m : List Nat, (∀ x ∈ m, x ∈ segsOf d) → m.flatMap (fun n => recs ((d'.crash cs).read (segN n)).1) = m.flatMap (fun n => recs (d.read (segN n)).1) := by
      intro m hm
      induction m with
      | nil => rfl
      | cons x m ih =>
        obtain ⟨f, hf⟩ := hseg x (hm x (List.mem_cons_self ..))
        obtain ⟨f1, e1, e2, _⟩ := h5.rc _ _ hf
        have e3 := h6 x (hm x (List.mem_cons_self ..)) f1 e1
        have hc := crash_fnd d'.fs hk' cs (segN x)
        rw [e1] at hc
        rw [List.flatMap_cons, List.flatMap_cons, ih fun y hy => hm y (List.mem_cons_of_mem _ hy)]
        congr 1
        obtain ⟨f2, e4, e5⟩ : ∃ f2, fnd (crashF d'.fs cs) (segN x) = some f2 ∧ f2.s = f1.s := by
          obtain ⟨k, h7, h8⟩ := hc
          exact ⟨_, h8, List.take_of_length_le (by omega)⟩
        unfold Ds.read
        rw [hf]
        show recs (match fnd (crashF d'.fs cs) (segN x) with | none => ([], 5) | some f => (f.s, 0)).1 = recs f.s
        rw [e4]
        show recs f2.s = recs f.s
        rw [e5, e2]
    exact hh _ fun _ h => h
end Go.Bar.Wal
