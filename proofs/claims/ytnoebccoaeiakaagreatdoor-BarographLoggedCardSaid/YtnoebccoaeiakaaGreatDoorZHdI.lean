/-
  Layer 15 (head): the walk of Check: which points may be added.
-/
import Derived.Test.YtnoebccoaeiakaaGreatDoorZRws
import Derived.Test.YtnoebccoaeiakaaGreatDoorZLib5
import Derived.Test.YtnoebccoaeiakaaGreatDoorZHdA
import Derived.Test.YtnoebccoaeiakaaGreatDoorZFrmM
import Derived.Test.YtnoebccoaeiakaaGreatDoorZLib3
import Derived.RegionTactic
import Derived.ChangeAlike
import Derived.Deep.RegionWith
import Derived.Deep.DeepCutAuto
import Derived.Deep.DrawnRows

namespace Go.Bar
open Go.RowKit
theorem MfAt.lenB {κ α : Type} {K : Kyk κ} {E : Elk α} {z : α} {P : Program} {t k e : TypeId} {w : World} {b n : Nat} {f : κ → Option α} (h : MfAt P k K E z w b n f) (T : Mty P t k e K E z) : ∃ s, s ≤ n ∧ ∀ w' ty, Below w.heap.size w w' → (Builtin.len_ #[t] ty #[.map (some b)]).run P w' = .ok (.int .i64 (s : Nat)) w' := by
  obtain ⟨D, ho, hs⟩ := h
  have hlt := ho.lt
  obtain ⟨es, clock, h1, h2, h3, rfl⟩ := ho
  exact ⟨_, by rw [Maps.size_eq]; exact Nat.le_trans (Nat.le_of_eq (length_read es)) h3, fun w' ty hb => World.ownsMap.len (⟨es, clock, (hb.block b hlt).trans h1, h2, h3, rfl⟩ : w'.ownsMap P k E.rd b n _) T.map ty⟩
end Go.Bar
namespace Go.Proofs.YtnoebccoaeiakaaGreatDoor
open Go.RowKit Go.Bar Go.Bar.Leb Go.Bar.Lab Go.Bar.Xor Go.Bar.Mrg Go.Bar.Hd
attribute [local go_sem] Oper.semAt_some
def RetChk (w : World) (h : List Row) (ps : List Pnt) (e : Ending) (w' : World) : Prop :=
  Below w.heap.size w w' ∧ ((e = .returned (.tuple #[.int .i64 (-1), .int .i64 0]) ∧ OksM h ps) ∨ ∃ (i : Nat) (er : Int), i < ps.length ∧ e = .returned (.tuple #[.int .i64 (i : Nat), .int .i64 er]) ∧ OksM h (ps.take i))
theorem RetChk.bad {w w' : World} {h : List Row} {ps : List Pnt} {i : Nat} {er : Int} (hb : Below w.heap.size w w') (hi : i < ps.length) (ho : OksM h (ps.take i)) : RetChk w h ps (.returned (.tuple #[.int .i64 (i : Nat), .int .i64 er])) w' := ⟨hb, .inr ⟨i, er, hi, rfl, ho⟩⟩

set_option maxHeartbeats 8000000 in
set_option maxRecDepth 10000 in
theorem hcheck_any (p H : Nat) (c : Cfg) (h : List Row) (g : Hg) (l : List Pv) (v : Value) (w : World) (k : HdAt Tryz.prog hty 3 w p H c h g) (hl : PtAt w v l) (hg : Gd h) (hlb : ∀ x ∈ l, LbOk x.ls) (hvs : ∀ x ∈ l, x.s.2 < 18446744073709551616)
    (hc : CfgOk c) (hb1 : h.length ≤ 100000) (hb2 : g.n ≤ 1000000) (hb3 : l.length ≤ 100000) :
    Calls Tryz.prog 9 #[.pointer (some ⟨p, 0, none⟩), v] w (RetChk w h (l.map plP)) := by
  obtain ⟨A, cp, rfl, hlc, hcm⟩ := hl.shape
  unfold maxLen at hcm
  obtain ⟨gR, gO, gI, gQ, glv, gsv, gn, gtp, gnx, gG, gZ⟩ := g
  obtain ⟨cs, cm, cw⟩ := c
  obtain ⟨hc1, hc2, hc3, hc4, _, _⟩ := hc
  simp only at hb2 hc1 hc2 hc3 hc4
  have hn0 : 0 ≤ gn := k.nn
  have HL := Lib.hid hl
  have HG := Lib.hid hg
  have HLB := Lib.hid hlb
  have HVS := Lib.hid hvs
  have HK := Lib.hid k
  have hmm := @run_makeMap Tryz.prog
  have hlen : (l.map plP).length = l.length := List.length_map ..
  have HLEN := Lib.hid hlen
  clear k hl hg hlb hvs hlen
  go_enter Tryz.func9, Tryz.ntmps9
  go_wp2_with fail
  have hm0 := Lib.hid (MfAt.made w Tryz.prog 9 kyS elZ 0)
  have hb0 := below_alloc1 w (.map #[] 0)
  obtain ⟨M, hM⟩ : ∃ M, M = w.heap.size := ⟨_, rfl⟩
  obtain ⟨w1, hw1⟩ : ∃ w1, w1 = w.alloc (.map #[] 0) := ⟨_, rfl⟩
  rw [← hw1] at hm0 hb0 ⊢
  rw [← hM] at hm0 ⊢
  have hMw : w.heap.size ≤ M := by omega
  have HMW := Lib.hid hMw
  clear hw1 hmm hM hMw
  have HB0 := Lib.hid hb0
  clear hb0
  go_loopw [19, 7] (fun i fr wr => ∃ (j f n : Nat) (F : List UInt8 → Option Int), i = .int .i64 j ∧ fr = .int .i64 f ∧ j ≤ l.length ∧ f ≤ j ∧ n ≤ j ∧ Hid (MfAt Tryz.prog 9 kyS elZ 0 wr M n F) ∧ Hid (LastI h ((l.map plP).take j) F) ∧ Hid (OksM h ((l.map plP).take j)) ∧ Hid (Below w.heap.size w wr)) (fun i _ _ => l.length - (intOf i).toNat)
  case atStart => exact ⟨0, 0, 0, _, rfl, rfl, Nat.zero_le _, Nat.le_refl _, Nat.le_refl _, hm0, Lib.hid (LastI.start h), Lib.hid trivial, HB0⟩
  case round =>
    clear hm0 HB0
    obtain ⟨j, f, n, F, rfl, rfl, hj, hfj, hnj, HM, HI, HO, HB⟩ := hrel
    by_cases hgo : j < l.length
    · obtain ⟨⟨L, la, lc, s⟩, hpk⟩ : ∃ p, l[j]? = some p := ⟨_, List.getElem?_eq_getElem hgo⟩
      obtain ⟨b, o, rfl, c0, c1, c2, hla⟩ := (HL.out.below HB.out).at_ hpk
      have hlb := HLB.out _ (List.mem_of_getElem? hpk)
      have hvv := HVS.out _ (List.mem_of_getElem? hpk)
      dsimp only at c0 c1 c2 hlb hvv
      have hpk2 : (l.map plP)[j]? = some (L, s) := by rw [List.getElem?_map, hpk]; rfl
      have HPK := Lib.hid hpk2
      have HLA := Lib.hid (show PsAt wr (.slice la L.length lc) L from hla)
      have HLO := Lib.hid hlb
      obtain ⟨T, V⟩ := s
      dsimp only at c1 c2 hvv
      have hci : (0 : Int) ≤ (j : Int) := by omega
      have hci2 : (j : Int) < l.length := by omega
      clear hpk hpk2 hla hlb
      go_upto_region 6 with fail
      have hba := below_alloc1 wr (.cells #[.slice la L.length lc, .int .i64 T, .int .u64 (V : Nat)] 100)
      have BP := Blk.new wr #[.slice la L.length lc, .int .i64 T, .int .u64 (V : Nat)] 100
      obtain ⟨wa, hwa⟩ : ∃ wa, wa = wr.alloc (.cells #[.slice la L.length lc, .int .i64 T, .int .u64 (V : Nat)] 100) := ⟨_, rfl⟩
      obtain ⟨K, hK⟩ : ∃ K, K = wr.heap.size := ⟨_, rfl⟩
      rw [← hwa] at hba BP ⊢
      rw [← hK] at BP ⊢
      have hck := Lib.hid (lcheck_any (.slice la L.length lc) L wa (HLA.out.below hba) (fun q hq => by have := HLO.out.2 q hq; omega))
      have HBA := Lib.hid (below_trans HB.out hba)
      have HLA2 := Lib.hid (HLA.out.below hba)
      have HM2 := Lib.hid (HM.out.below hba)
      have q0 := BP.cell (i := 0) rfl
      clear hwa hK hba c0 c1 c2 HM HB HLA
      have hjl : j < (l.map plP).length := by rw [HLEN.out]; exact hgo
      by_cases hok : Ok L
      case' neg =>
        have hck2 := hck.out
        rw [errL_no hok] at hck2
        have HCK := Lib.hid hck2
        clear hck2 hck
        go_wp2_with (go_at_call 35; refine HCK.out.mono ?_; rintro e w2 ⟨rfl, hb2'⟩)
        go_ret2
        exact RetChk.bad (below_trans HBA.out hb2') hjl HO.out
      have hck2 := hck.out
      rw [errL_ok hok] at hck2
      have HCK := Lib.hid hck2
      have HOK := Lib.hid hok
      clear hck2 hck hok
      go_upto_region 9 with (go_at_call 35; refine HCK.out.mono ?_; rintro e w2 ⟨rfl, hb2'⟩)
      have HB2 := Lib.hid (below_trans HBA.out hb2')
      have BP2 := BP.below hb2'
      have HLA3 := Lib.hid (HLA2.out.below hb2')
      have HM3 := Lib.hid (HM2.out.below hb2')
      have q1 := BP2.cell (i := 1) rfl
      have q2 := BP2.cell (i := 0) rfl
      clear hb2' BP HLA2 HM2 HBA q0 HCK
      by_cases hT0 : T < 0
      case' pos =>
        have hd0 : decide (T < 0) = true := decide_eq_true hT0
        go_wp2_with fail
        go_ret2
        exact RetChk.bad HB2.out hjl HO.out
      have hd0 : decide (T < 0) = false := decide_eq_false hT0
      by_cases hT1 : 1099511627776 ≤ T
      case' pos =>
        have hd1 : decide (1099511627776 ≤ T) = true := decide_eq_true hT1
        go_wp2_with fail
        go_ret2
        exact RetChk.bad HB2.out hjl HO.out
      have hd1 : decide (1099511627776 ≤ T) = false := decide_eq_false hT1
      have hkey := Lib.hid (key_any (.slice la L.length lc) L w2 HLA3.out (by have := HOK.out.2.1; omega) (fun q hq => by have := okL HOK.out hq; omega))
      have hkl : (key L).length ≤ maxLen := Nat.le_trans (key_le HOK.out) (by decide)
      go_upto_region 12 with (go_at_call 36; refine hkey.out.mono ?_; rintro e w3 ⟨rfl, hb3'⟩)
      have HB3 := Lib.hid (below_trans HB2.out hb3')
      have BP3 := BP2.below hb3'
      have HM4 := Lib.hid (HM3.out.below hb3')
      have HK3 := Lib.hid (HK.out.below HB3.out)
      clear hb3' BP2 HM3 HB2 HLA3 q1 q2 hkey hd0 hd1
      have hd3 := HK3.out.hd
      unfold hdC at hd3
      obtain ⟨_, _, _, d3, d4, _, _, _, _, _⟩ := hd3.c10
      simp only at d3 d4
      have hla := HM4.out.look_ok mtyL (key L) hkl
      have hrf := HK3.out.rf.look_ok mtyR (key L) hkl
      rw [refF_key HG.out.lb HLO.out] at hrf
      have q1 := BP3.cell (i := 1) rfl
      -- what is known of the series' last time
      have hseen : ∃ (sb : Bool) (wv : Int), (F (key L) = some wv ∧ sb = true) ∨ (F (key L) = none ∧ ∃ i ss, ixM h L = some i ∧ h[i]? = some (L, ss) ∧ wv = lastT ss ∧ sb = true) ∨ (F (key L) = none ∧ ixM h L = none ∧ wv = 0 ∧ sb = false) := by
        cases hF : F (key L) with
        | some t => exact ⟨true, t, .inl ⟨rfl, rfl⟩⟩
        | none =>
          cases hi : ixM h L with
          | some i =>
            obtain ⟨ss, hss⟩ := ixM_some hi
            exact ⟨true, lastT ss, .inr (.inl ⟨rfl, i, ss, rfl, hss, rfl, rfl⟩)⟩
          | none => exact ⟨false, 0, .inr (.inr ⟨rfl, rfl, rfl, rfl⟩)⟩
      obtain ⟨sb, wv, hcase⟩ := hseen
      have KF : Hid ((sb = true → wv < T) → OkP (addMs h ((l.map plP).take j)) (L, (T, V))) := Lib.hid (fun hlt => HI.out.ok HG.out HOK.out ⟨by simp only; omega, by simp only; omega, by simp only; exact hvv⟩ (by
        rcases hcase with ⟨hF, rfl⟩ | ⟨hF, i, ss, hi, hss, rfl, rfl⟩ | ⟨hF, hi, rfl, rfl⟩
        · simp only at hF ⊢
          rw [hF]
          exact hlt rfl
        · simp only at hF ⊢
          rw [hF]
          intro i' ss' hi' hss'
          rw [hi] at hi'
          injection hi' with hi'
          subst hi'
          rw [hss] at hss'
          injection hss' with hss'
          injection hss' with _ hss'
          rw [← hss']
          exact hlt rfl
        · simp only at hF ⊢
          rw [hF]
          intro i' ss' hi'
          rw [hi] at hi'
          cases hi'))
      -- THE CASES
      rcases hcase with ⟨hF, rfl⟩ | ⟨hF, i, ss, hi, hss, hwv, rfl⟩ | ⟨hF, hi, hwv, rfl⟩
      case' inl =>
        rw [hF] at hla
        replace hla : (Instr.lookup 104 (.map (some M)) (.string (bs (key L))) true).run Tryz.prog w3 = .ok (.tuple #[.int .i64 wv, .bool true]) w3 := hla
        obtain ⟨z, rb, hrf2⟩ : ∃ z rb, (Instr.lookup 86 (.map (some gR)) (.string (bs (key L))) true).run Tryz.prog w3 = .ok (.tuple #[.int .i64 z, .bool rb]) w3 := ⟨_, _, hrf⟩
        clear hrf hF
        rcases rb with _ | _
        all_goals go_upto_region 16 with fail
        all_goals
          by_cases hw1 : T = wv
          case' pos =>
            have hd5 : (T == wv) = true := by rw [beq_iff_eq]; exact hw1
            have HW1 := Lib.hid hw1
            clear hw1
            go_wp2_with fail
            go_ret2
            exact RetChk.bad HB3.out hjl HO.out
          have hd5 : (T == wv) = false := by rw [beq_eq_false_iff_ne]; exact hw1
          have hd6 : decide (T < 0) = false := decide_eq_false (by omega)
          by_cases hw2 : T < wv
          case' pos =>
            have hd7 : decide (T < wv) = true := decide_eq_true (by omega)
            go_upto_region 18 with fail
            refine wp_region_known [(2, .int .i64 T), (6, .int .i64 0), (13, .int .i64 T)] (by kernel_rfl) 143 (by kernel_rfl) rfl ?_
            repeat (first
              | (refine Chain.step (v := ?_) (a' := ?_) rfl rfl rfl ?_ ?_ ?_; rotate_left 2; (focus (intro w; go_simp; try with_reducible rfl)); focus (simp only [Act.put, pqA, pqS, pqZ]; try rfl))
              | (refine Chain.call (i := 2) (a' := ?_) _ rfl rfl rfl (fun wx hw => ?_) ?_ ?_; rotate_left 1; (focus ((have y0 := (BP3.below hw).cell (i := 1) rfl; go_simp; first | exact ⟨rfl, rB⟩ | exact rB))); focus (simp only [Act.put, pqA, pqS, pqZ]; try rfl))
              | (refine Chain.call (i := 6) (a' := ?_) _ rfl rfl rfl (fun wx hw => ?_) ?_ ?_; rotate_left 1; (focus ((have y0 := (hd3.below hw).cell (i := 8) rfl; go_simp; first | exact ⟨rfl, rB⟩ | exact rB))); focus (simp only [Act.put, pqA, pqS, pqZ]; try rfl))
              | (refine Chain.call (i := 13) (a' := ?_) _ rfl rfl rfl (fun wx hw => ?_) ?_ ?_; rotate_left 1; (focus ((have y0 := (BP3.below hw).cell (i := 1) rfl; go_simp; first | exact ⟨rfl, rB⟩ | exact rB))); focus (simp only [Act.put, pqA, pqS, pqZ]; try rfl))
              | (refine Chain.skip (a' := ?_) rfl rfl rfl ?_ ?_; rotate_left 1; focus (simp only [Act.put, pqA, pqS, pqZ]; try rfl)))
            refine Chain.end_ (fun wz hwz _ => ?_)
            go_wp2_with fail
            go_ret2
            exact RetChk.bad (below_trans HB3.out hwz) hjl HO.out
          have hd7 : decide (T < wv) = false := decide_eq_false (by omega)
          go_upto_region 18 with fail
          refine wp_region_known [(2, .int .i64 T), (6, .int .i64 0), (13, .int .i64 T)] (by kernel_rfl) 143 (by kernel_rfl) rfl ?_
          repeat (first
            | (refine Chain.step (v := ?_) (a' := ?_) rfl rfl rfl ?_ ?_ ?_; rotate_left 2; (focus (intro w; go_simp; try with_reducible rfl)); focus (simp only [Act.put, pqA, pqS, pqZ]; try rfl))
            | (refine Chain.call (i := 2) (a' := ?_) _ rfl rfl rfl (fun wx hw => ?_) ?_ ?_; rotate_left 1; (focus ((have y0 := (BP3.below hw).cell (i := 1) rfl; go_simp; first | exact ⟨rfl, rB⟩ | exact rB))); focus (simp only [Act.put, pqA, pqS, pqZ]; try rfl))
            | (refine Chain.call (i := 6) (a' := ?_) _ rfl rfl rfl (fun wx hw => ?_) ?_ ?_; rotate_left 1; (focus ((have y0 := (hd3.below hw).cell (i := 8) rfl; go_simp; first | exact ⟨rfl, rB⟩ | exact rB))); focus (simp only [Act.put, pqA, pqS, pqZ]; try rfl))
            | (refine Chain.call (i := 13) (a' := ?_) _ rfl rfl rfl (fun wx hw => ?_) ?_ ?_; rotate_left 1; (focus ((have y0 := (BP3.below hw).cell (i := 1) rfl; go_simp; first | exact ⟨rfl, rB⟩ | exact rB))); focus (simp only [Act.put, pqA, pqS, pqZ]; try rfl))
            | (refine Chain.skip (a' := ?_) rfl rfl rfl ?_ ?_; rotate_left 1; focus (simp only [Act.put, pqA, pqS, pqZ]; try rfl)))
          refine Chain.end_ (fun wz hwz _ => ?_)
          have HOKP := Lib.hid (KF.out (fun _ => by omega))
          go_upto_region 22 with fail
          obtain ⟨sN, hsN, hlenf⟩ := HK3.out.of_.lenB mtyO
          simp only at hlenf
          have HLN := Lib.hid hlenf
          have hsN2 : (sN : Int) ≤ 100000 := by omega
          clear hlenf hla hrf2 KF
          have wr1 : IntKind.i64.wrap ((sN : Int) + (f : Int)) = (sN : Int) + (f : Int) := by rw [IntKind.wrap_i64]; omega
          have wr2 : IntKind.i64.wrap (gn + (j : Int)) = gn + (j : Int) := by rw [IntKind.wrap_i64]; omega
          have wr3 : IntKind.i64.wrap (gn + (j : Int) + 1) = gn + (j : Int) + 1 := by rw [IntKind.wrap_i64]; omega
          by_cases e1 : cs < (sN : Int) + (f : Int)
          case' pos =>
            have he1 : decide (cs < (sN : Int) + (f : Int)) = true := decide_eq_true (by omega)
            refine wp_region_known [(3, .map (some gO)), (4, .int .i64 (sN : Nat)), (11, .int .i64 cs)] (by kernel_rfl) 143 (by kernel_rfl) rfl ?_
            repeat (first
              | (refine Chain.step (v := ?_) (a' := ?_) rfl rfl rfl ?_ ?_ ?_; rotate_left 2; (focus (intro w; go_simp; try with_reducible rfl)); focus (simp only [Act.put, pqA, pqS, pqZ]; try rfl))
              | (refine Chain.call (i := 3) (a' := ?_) _ rfl rfl rfl (fun wx hw => ?_) ?_ ?_; rotate_left 1; (focus ((have y0 := (hd3.below (below_trans hwz hw)).cell (i := 4) rfl; go_simp; first | exact ⟨rfl, rB⟩ | exact rB))); focus (simp only [Act.put, pqA, pqS, pqZ]; try rfl))
              | (refine Chain.call (i := 4) (a' := ?_) _ rfl rfl rfl (fun wx hw => ?_) ?_ ?_; rotate_left 1; (focus ((have y0 := fun ty => HLN.out wx ty (below_trans hwz hw); go_simp; first | exact ⟨rfl, rB⟩ | exact rB))); focus (simp only [Act.put, pqA, pqS, pqZ]; try rfl))
              | (refine Chain.call (i := 11) (a' := ?_) _ rfl rfl rfl (fun wx hw => ?_) ?_ ?_; rotate_left 1; (focus ((have y0 := (hd3.below (below_trans hwz hw)).cell (i := 0) rfl; go_simp; first | exact ⟨rfl, rB⟩ | exact rB))); focus (simp only [Act.put, pqA, pqS, pqZ]; try rfl))
              | (refine Chain.skip (a' := ?_) rfl rfl rfl ?_ ?_; rotate_left 1; focus (simp only [Act.put, pqA, pqS, pqZ]; try rfl)))
            refine Chain.end_ (fun wy hwy _ => ?_)
            go_wp2_with fail
            go_ret2
            exact RetChk.bad (below_trans HB3.out (below_trans hwz hwy)) hjl HO.out
          have he1 : decide (cs < (sN : Int) + (f : Int)) = false := decide_eq_false (by omega)
          by_cases e2 : cm < gn + (j : Int) + 1
          case' pos =>
            have he2 : decide (cm < gn + (j : Int) + 1) = true := decide_eq_true (by omega)
            refine wp_region_known [(3, .map (some gO)), (4, .int .i64 (sN : Nat)), (11, .int .i64 cs), (17, .int .i64 gn), (25, .int .i64 cm)] (by kernel_rfl) 143 (by kernel_rfl) rfl ?_
            repeat (first
              | (refine Chain.step (v := ?_) (a' := ?_) rfl rfl rfl ?_ ?_ ?_; rotate_left 2; (focus (intro w; go_simp; try with_reducible rfl)); focus (simp only [Act.put, pqA, pqS, pqZ]; try rfl))
              | (refine Chain.call (i := 3) (a' := ?_) _ rfl rfl rfl (fun wx hw => ?_) ?_ ?_; rotate_left 1; (focus ((have y0 := (hd3.below (below_trans hwz hw)).cell (i := 4) rfl; go_simp; first | exact ⟨rfl, rB⟩ | exact rB))); focus (simp only [Act.put, pqA, pqS, pqZ]; try rfl))
              | (refine Chain.call (i := 4) (a' := ?_) _ rfl rfl rfl (fun wx hw => ?_) ?_ ?_; rotate_left 1; (focus ((have y0 := fun ty => HLN.out wx ty (below_trans hwz hw); go_simp; first | exact ⟨rfl, rB⟩ | exact rB))); focus (simp only [Act.put, pqA, pqS, pqZ]; try rfl))
              | (refine Chain.call (i := 11) (a' := ?_) _ rfl rfl rfl (fun wx hw => ?_) ?_ ?_; rotate_left 1; (focus ((have y0 := (hd3.below (below_trans hwz hw)).cell (i := 0) rfl; go_simp; first | exact ⟨rfl, rB⟩ | exact rB))); focus (simp only [Act.put, pqA, pqS, pqZ]; try rfl))
              | (refine Chain.call (i := 17) (a' := ?_) _ rfl rfl rfl (fun wx hw => ?_) ?_ ?_; rotate_left 1; (focus ((have y0 := (hd3.below (below_trans hwz hw)).cell (i := 7) rfl; go_simp; first | exact ⟨rfl, rB⟩ | exact rB))); focus (simp only [Act.put, pqA, pqS, pqZ]; try rfl))
              | (refine Chain.call (i := 25) (a' := ?_) _ rfl rfl rfl (fun wx hw => ?_) ?_ ?_; rotate_left 1; (focus ((have y0 := (hd3.below (below_trans hwz hw)).cell (i := 1) rfl; go_simp; first | exact ⟨rfl, rB⟩ | exact rB))); focus (simp only [Act.put, pqA, pqS, pqZ]; try rfl))
              | (refine Chain.skip (a' := ?_) rfl rfl rfl ?_ ?_; rotate_left 1; focus (simp only [Act.put, pqA, pqS, pqZ]; try rfl)))
            refine Chain.end_ (fun wy hwy _ => ?_)
            go_wp2_with fail
            go_ret2
            exact RetChk.bad (below_trans HB3.out (below_trans hwz hwy)) hjl HO.out
          have he2 : decide (cm < gn + (j : Int) + 1) = false := decide_eq_false (by omega)
          refine wp_region_known [(3, .map (some gO)), (4, .int .i64 (sN : Nat)), (11, .int .i64 cs), (17, .int .i64 gn), (25, .int .i64 cm)] (by kernel_rfl) 143 (by kernel_rfl) rfl ?_
          repeat (first
            | (refine Chain.step (v := ?_) (a' := ?_) rfl rfl rfl ?_ ?_ ?_; rotate_left 2; (focus (intro w; go_simp; try with_reducible rfl)); focus (simp only [Act.put, pqA, pqS, pqZ]; try rfl))
            | (refine Chain.call (i := 3) (a' := ?_) _ rfl rfl rfl (fun wx hw => ?_) ?_ ?_; rotate_left 1; (focus ((have y0 := (hd3.below (below_trans hwz hw)).cell (i := 4) rfl; go_simp; first | exact ⟨rfl, rB⟩ | exact rB))); focus (simp only [Act.put, pqA, pqS, pqZ]; try rfl))
            | (refine Chain.call (i := 4) (a' := ?_) _ rfl rfl rfl (fun wx hw => ?_) ?_ ?_; rotate_left 1; (focus ((have y0 := fun ty => HLN.out wx ty (below_trans hwz hw); go_simp; first | exact ⟨rfl, rB⟩ | exact rB))); focus (simp only [Act.put, pqA, pqS, pqZ]; try rfl))
            | (refine Chain.call (i := 11) (a' := ?_) _ rfl rfl rfl (fun wx hw => ?_) ?_ ?_; rotate_left 1; (focus ((have y0 := (hd3.below (below_trans hwz hw)).cell (i := 0) rfl; go_simp; first | exact ⟨rfl, rB⟩ | exact rB))); focus (simp only [Act.put, pqA, pqS, pqZ]; try rfl))
            | (refine Chain.call (i := 17) (a' := ?_) _ rfl rfl rfl (fun wx hw => ?_) ?_ ?_; rotate_left 1; (focus ((have y0 := (hd3.below (below_trans hwz hw)).cell (i := 7) rfl; go_simp; first | exact ⟨rfl, rB⟩ | exact rB))); focus (simp only [Act.put, pqA, pqS, pqZ]; try rfl))
            | (refine Chain.call (i := 25) (a' := ?_) _ rfl rfl rfl (fun wx hw => ?_) ?_ ?_; rotate_left 1; (focus ((have y0 := (hd3.below (below_trans hwz hw)).cell (i := 1) rfl; go_simp; first | exact ⟨rfl, rB⟩ | exact rB))); focus (simp only [Act.put, pqA, pqS, pqZ]; try rfl))
            | (refine Chain.skip (a' := ?_) rfl rfl rfl ?_ ?_; rotate_left 1; focus (simp only [Act.put, pqA, pqS, pqZ]; try rfl)))
          refine Chain.end_ (fun wy hwy _ => ?_)
          have BP5 := BP3.below (below_trans hwz hwy)
          have q9 := BP5.cell (i := 1) rfl
          have HM5 := Lib.hid (HM4.out.below (below_trans hwz hwy))
          have HB5 := Lib.hid (below_trans HB3.out (below_trans hwz hwy))
          have hnl : n < maxLen := by unfold maxLen; omega
          clear he1 he2 e1 e2 hwz hwy HB3 HM4
          go_wp2_with (at_mapUpdate; refine wpList_update_mf rfl _ _ _ 104 rfl mtyL rfl HM5.out hnl (key L) rfl hkl T rfl ?_; intro w6 hm6 hg6)
          have HM6 := Lib.hid hm6
          have HB6 := Lib.hid (HB5.out.trans (below_grown hg6 HMW.out HB5.out.size))
          clear hm6 hg6
          go_roundw
          case rel => exact ⟨j + 1, f, n + 1, _, by go_num, (by first | rfl | trivial), by omega, by omega, by omega, HM6, Lib.hid (by
            have h1 := HI.out.step (p := (L, (T, V))) HLO.out ((Gd.adds HG.out HO.out).add HOKP.out)
            rw [List.take_add_one, HPK.out, Option.toList_some]
            exact h1), Lib.hid (by
            rw [List.take_add_one, HPK.out, Option.toList_some]
            exact oksM_snoc.2 ⟨HO.out, HOKP.out⟩), HB6⟩
          case measure => simp [intOf]; omega
      case' inr.inl =>
        rw [hF] at hla
        replace hla : (Instr.lookup 104 (.map (some M)) (.string (bs (key L))) true).run Tryz.prog w3 = .ok (.tuple #[.int .i64 0, .bool false]) w3 := hla
        rw [hi] at hrf
        have hrf2 : (Instr.lookup 86 (.map (some gR)) (.string (bs (key L))) true).run Tryz.prog w3 = .ok (.tuple #[.int .i64 ((i : Int) + 1), .bool true]) w3 := hrf
        have hil := ixM_lt hi
        have hof : (Instr.lookup 87 (.map (some gO)) (.int .i64 ((i : Int) + 1)) false).run Tryz.prog w3 = .ok (.pointer (some ⟨gQ i, 0, none⟩)) w3 := by
          have h2 := HK3.out.of_.look mtyO ((i : Int) + 1) ⟨by omega, by omega⟩
          rw [ofF_at _ hil] at h2
          exact h2
        have hQ : w3.cell? ⟨gQ i, 2, none⟩ = some (.int .i64 wv) := by rw [hwv]; exact (HK3.out.sr i _ hss).blk.cell (i := 2) rfl
        clear hrf hF hi hss hwv hil
        go_upto_region 16 with fail
        clear hof hQ
        by_cases hw1 : T = wv
        case' pos =>
          have hd5 : (T == wv) = true := by rw [beq_iff_eq]; exact hw1
          have HW1 := Lib.hid hw1
          clear hw1
          go_wp2_with fail
          go_ret2
          exact RetChk.bad HB3.out hjl HO.out
        have hd5 : (T == wv) = false := by rw [beq_eq_false_iff_ne]; exact hw1
        have hd6 : decide (T < 0) = false := decide_eq_false (by omega)
        by_cases hw2 : T < wv
        case' pos =>
          have hd7 : decide (T < wv) = true := decide_eq_true (by omega)
          go_upto_region 18 with fail
          refine wp_region_known [(2, .int .i64 T), (6, .int .i64 0), (13, .int .i64 T)] (by kernel_rfl) 143 (by kernel_rfl) rfl ?_
          repeat (first
            | (refine Chain.step (v := ?_) (a' := ?_) rfl rfl rfl ?_ ?_ ?_; rotate_left 2; (focus (intro w; go_simp; try with_reducible rfl)); focus (simp only [Act.put, pqA, pqS, pqZ]; try rfl))
            | (refine Chain.call (i := 2) (a' := ?_) _ rfl rfl rfl (fun wx hw => ?_) ?_ ?_; rotate_left 1; (focus ((have y0 := (BP3.below hw).cell (i := 1) rfl; go_simp; first | exact ⟨rfl, rB⟩ | exact rB))); focus (simp only [Act.put, pqA, pqS, pqZ]; try rfl))
            | (refine Chain.call (i := 6) (a' := ?_) _ rfl rfl rfl (fun wx hw => ?_) ?_ ?_; rotate_left 1; (focus ((have y0 := (hd3.below hw).cell (i := 8) rfl; go_simp; first | exact ⟨rfl, rB⟩ | exact rB))); focus (simp only [Act.put, pqA, pqS, pqZ]; try rfl))
            | (refine Chain.call (i := 13) (a' := ?_) _ rfl rfl rfl (fun wx hw => ?_) ?_ ?_; rotate_left 1; (focus ((have y0 := (BP3.below hw).cell (i := 1) rfl; go_simp; first | exact ⟨rfl, rB⟩ | exact rB))); focus (simp only [Act.put, pqA, pqS, pqZ]; try rfl))
            | (refine Chain.skip (a' := ?_) rfl rfl rfl ?_ ?_; rotate_left 1; focus (simp only [Act.put, pqA, pqS, pqZ]; try rfl)))
          refine Chain.end_ (fun wz hwz _ => ?_)
          go_wp2_with fail
          go_ret2
          exact RetChk.bad (below_trans HB3.out hwz) hjl HO.out
        have hd7 : decide (T < wv) = false := decide_eq_false (by omega)
        go_upto_region 18 with fail
        refine wp_region_known [(2, .int .i64 T), (6, .int .i64 0), (13, .int .i64 T)] (by kernel_rfl) 143 (by kernel_rfl) rfl ?_
        repeat (first
          | (refine Chain.step (v := ?_) (a' := ?_) rfl rfl rfl ?_ ?_ ?_; rotate_left 2; (focus (intro w; go_simp; try with_reducible rfl)); focus (simp only [Act.put, pqA, pqS, pqZ]; try rfl))
          | (refine Chain.call (i := 2) (a' := ?_) _ rfl rfl rfl (fun wx hw => ?_) ?_ ?_; rotate_left 1; (focus ((have y0 := (BP3.below hw).cell (i := 1) rfl; go_simp; first | exact ⟨rfl, rB⟩ | exact rB))); focus (simp only [Act.put, pqA, pqS, pqZ]; try rfl))
          | (refine Chain.call (i := 6) (a' := ?_) _ rfl rfl rfl (fun wx hw => ?_) ?_ ?_; rotate_left 1; (focus ((have y0 := (hd3.below hw).cell (i := 8) rfl; go_simp; first | exact ⟨rfl, rB⟩ | exact rB))); focus (simp only [Act.put, pqA, pqS, pqZ]; try rfl))
          | (refine Chain.call (i := 13) (a' := ?_) _ rfl rfl rfl (fun wx hw => ?_) ?_ ?_; rotate_left 1; (focus ((have y0 := (BP3.below hw).cell (i := 1) rfl; go_simp; first | exact ⟨rfl, rB⟩ | exact rB))); focus (simp only [Act.put, pqA, pqS, pqZ]; try rfl))
          | (refine Chain.skip (a' := ?_) rfl rfl rfl ?_ ?_; rotate_left 1; focus (simp only [Act.put, pqA, pqS, pqZ]; try rfl)))
        refine Chain.end_ (fun wz hwz _ => ?_)
        have HOKP := Lib.hid (KF.out (fun _ => by omega))
        go_upto_region 22 with fail
        obtain ⟨sN, hsN, hlenf⟩ := HK3.out.of_.lenB mtyO
        simp only at hlenf
        have HLN := Lib.hid hlenf
        have hsN2 : (sN : Int) ≤ 100000 := by omega
        clear hlenf hla hrf2 KF
        have wr1 : IntKind.i64.wrap ((sN : Int) + (f : Int)) = (sN : Int) + (f : Int) := by rw [IntKind.wrap_i64]; omega
        have wr2 : IntKind.i64.wrap (gn + (j : Int)) = gn + (j : Int) := by rw [IntKind.wrap_i64]; omega
        have wr3 : IntKind.i64.wrap (gn + (j : Int) + 1) = gn + (j : Int) + 1 := by rw [IntKind.wrap_i64]; omega
        by_cases e1 : cs < (sN : Int) + (f : Int)
        case' pos =>
          have he1 : decide (cs < (sN : Int) + (f : Int)) = true := decide_eq_true (by omega)
          refine wp_region_known [(3, .map (some gO)), (4, .int .i64 (sN : Nat)), (11, .int .i64 cs)] (by kernel_rfl) 143 (by kernel_rfl) rfl ?_
          repeat (first
            | (refine Chain.step (v := ?_) (a' := ?_) rfl rfl rfl ?_ ?_ ?_; rotate_left 2; (focus (intro w; go_simp; try with_reducible rfl)); focus (simp only [Act.put, pqA, pqS, pqZ]; try rfl))
            | (refine Chain.call (i := 3) (a' := ?_) _ rfl rfl rfl (fun wx hw => ?_) ?_ ?_; rotate_left 1; (focus ((have y0 := (hd3.below (below_trans hwz hw)).cell (i := 4) rfl; go_simp; first | exact ⟨rfl, rB⟩ | exact rB))); focus (simp only [Act.put, pqA, pqS, pqZ]; try rfl))
            | (refine Chain.call (i := 4) (a' := ?_) _ rfl rfl rfl (fun wx hw => ?_) ?_ ?_; rotate_left 1; (focus ((have y0 := fun ty => HLN.out wx ty (below_trans hwz hw); go_simp; first | exact ⟨rfl, rB⟩ | exact rB))); focus (simp only [Act.put, pqA, pqS, pqZ]; try rfl))
            | (refine Chain.call (i := 11) (a' := ?_) _ rfl rfl rfl (fun wx hw => ?_) ?_ ?_; rotate_left 1; (focus ((have y0 := (hd3.below (below_trans hwz hw)).cell (i := 0) rfl; go_simp; first | exact ⟨rfl, rB⟩ | exact rB))); focus (simp only [Act.put, pqA, pqS, pqZ]; try rfl))
            | (refine Chain.skip (a' := ?_) rfl rfl rfl ?_ ?_; rotate_left 1; focus (simp only [Act.put, pqA, pqS, pqZ]; try rfl)))
          refine Chain.end_ (fun wy hwy _ => ?_)
          go_wp2_with fail
          go_ret2
          exact RetChk.bad (below_trans HB3.out (below_trans hwz hwy)) hjl HO.out
        have he1 : decide (cs < (sN : Int) + (f : Int)) = false := decide_eq_false (by omega)
        by_cases e2 : cm < gn + (j : Int) + 1
        case' pos =>
          have he2 : decide (cm < gn + (j : Int) + 1) = true := decide_eq_true (by omega)
          refine wp_region_known [(3, .map (some gO)), (4, .int .i64 (sN : Nat)), (11, .int .i64 cs), (17, .int .i64 gn), (25, .int .i64 cm)] (by kernel_rfl) 143 (by kernel_rfl) rfl ?_
          repeat (first
            | (refine Chain.step (v := ?_) (a' := ?_) rfl rfl rfl ?_ ?_ ?_; rotate_left 2; (focus (intro w; go_simp; try with_reducible rfl)); focus (simp only [Act.put, pqA, pqS, pqZ]; try rfl))
            | (refine Chain.call (i := 3) (a' := ?_) _ rfl rfl rfl (fun wx hw => ?_) ?_ ?_; rotate_left 1; (focus ((have y0 := (hd3.below (below_trans hwz hw)).cell (i := 4) rfl; go_simp; first | exact ⟨rfl, rB⟩ | exact rB))); focus (simp only [Act.put, pqA, pqS, pqZ]; try rfl))
            | (refine Chain.call (i := 4) (a' := ?_) _ rfl rfl rfl (fun wx hw => ?_) ?_ ?_; rotate_left 1; (focus ((have y0 := fun ty => HLN.out wx ty (below_trans hwz hw); go_simp; first | exact ⟨rfl, rB⟩ | exact rB))); focus (simp only [Act.put, pqA, pqS, pqZ]; try rfl))
            | (refine Chain.call (i := 11) (a' := ?_) _ rfl rfl rfl (fun wx hw => ?_) ?_ ?_; rotate_left 1; (focus ((have y0 := (hd3.below (below_trans hwz hw)).cell (i := 0) rfl; go_simp; first | exact ⟨rfl, rB⟩ | exact rB))); focus (simp only [Act.put, pqA, pqS, pqZ]; try rfl))
            | (refine Chain.call (i := 17) (a' := ?_) _ rfl rfl rfl (fun wx hw => ?_) ?_ ?_; rotate_left 1; (focus ((have y0 := (hd3.below (below_trans hwz hw)).cell (i := 7) rfl; go_simp; first | exact ⟨rfl, rB⟩ | exact rB))); focus (simp only [Act.put, pqA, pqS, pqZ]; try rfl))
            | (refine Chain.call (i := 25) (a' := ?_) _ rfl rfl rfl (fun wx hw => ?_) ?_ ?_; rotate_left 1; (focus ((have y0 := (hd3.below (below_trans hwz hw)).cell (i := 1) rfl; go_simp; first | exact ⟨rfl, rB⟩ | exact rB))); focus (simp only [Act.put, pqA, pqS, pqZ]; try rfl))
            | (refine Chain.skip (a' := ?_) rfl rfl rfl ?_ ?_; rotate_left 1; focus (simp only [Act.put, pqA, pqS, pqZ]; try rfl)))
          refine Chain.end_ (fun wy hwy _ => ?_)
          go_wp2_with fail
          go_ret2
          exact RetChk.bad (below_trans HB3.out (below_trans hwz hwy)) hjl HO.out
        have he2 : decide (cm < gn + (j : Int) + 1) = false := decide_eq_false (by omega)
        refine wp_region_known [(3, .map (some gO)), (4, .int .i64 (sN : Nat)), (11, .int .i64 cs), (17, .int .i64 gn), (25, .int .i64 cm)] (by kernel_rfl) 143 (by kernel_rfl) rfl ?_
        repeat (first
          | (refine Chain.step (v := ?_) (a' := ?_) rfl rfl rfl ?_ ?_ ?_; rotate_left 2; (focus (intro w; go_simp; try with_reducible rfl)); focus (simp only [Act.put, pqA, pqS, pqZ]; try rfl))
          | (refine Chain.call (i := 3) (a' := ?_) _ rfl rfl rfl (fun wx hw => ?_) ?_ ?_; rotate_left 1; (focus ((have y0 := (hd3.below (below_trans hwz hw)).cell (i := 4) rfl; go_simp; first | exact ⟨rfl, rB⟩ | exact rB))); focus (simp only [Act.put, pqA, pqS, pqZ]; try rfl))
          | (refine Chain.call (i := 4) (a' := ?_) _ rfl rfl rfl (fun wx hw => ?_) ?_ ?_; rotate_left 1; (focus ((have y0 := fun ty => HLN.out wx ty (below_trans hwz hw); go_simp; first | exact ⟨rfl, rB⟩ | exact rB))); focus (simp only [Act.put, pqA, pqS, pqZ]; try rfl))
          | (refine Chain.call (i := 11) (a' := ?_) _ rfl rfl rfl (fun wx hw => ?_) ?_ ?_; rotate_left 1; (focus ((have y0 := (hd3.below (below_trans hwz hw)).cell (i := 0) rfl; go_simp; first | exact ⟨rfl, rB⟩ | exact rB))); focus (simp only [Act.put, pqA, pqS, pqZ]; try rfl))
          | (refine Chain.call (i := 17) (a' := ?_) _ rfl rfl rfl (fun wx hw => ?_) ?_ ?_; rotate_left 1; (focus ((have y0 := (hd3.below (below_trans hwz hw)).cell (i := 7) rfl; go_simp; first | exact ⟨rfl, rB⟩ | exact rB))); focus (simp only [Act.put, pqA, pqS, pqZ]; try rfl))
          | (refine Chain.call (i := 25) (a' := ?_) _ rfl rfl rfl (fun wx hw => ?_) ?_ ?_; rotate_left 1; (focus ((have y0 := (hd3.below (below_trans hwz hw)).cell (i := 1) rfl; go_simp; first | exact ⟨rfl, rB⟩ | exact rB))); focus (simp only [Act.put, pqA, pqS, pqZ]; try rfl))
          | (refine Chain.skip (a' := ?_) rfl rfl rfl ?_ ?_; rotate_left 1; focus (simp only [Act.put, pqA, pqS, pqZ]; try rfl)))
        refine Chain.end_ (fun wy hwy _ => ?_)
        have BP5 := BP3.below (below_trans hwz hwy)
        have q9 := BP5.cell (i := 1) rfl
        have HM5 := Lib.hid (HM4.out.below (below_trans hwz hwy))
        have HB5 := Lib.hid (below_trans HB3.out (below_trans hwz hwy))
        have hnl : n < maxLen := by unfold maxLen; omega
        clear he1 he2 e1 e2 hwz hwy HB3 HM4
        go_wp2_with (at_mapUpdate; refine wpList_update_mf rfl _ _ _ 104 rfl mtyL rfl HM5.out hnl (key L) rfl hkl T rfl ?_; intro w6 hm6 hg6)
        have HM6 := Lib.hid hm6
        have HB6 := Lib.hid (HB5.out.trans (below_grown hg6 HMW.out HB5.out.size))
        clear hm6 hg6
        go_roundw
        case rel => exact ⟨j + 1, f, n + 1, _, by go_num, (by first | rfl | trivial), by omega, by omega, by omega, HM6, Lib.hid (by
          have h1 := HI.out.step (p := (L, (T, V))) HLO.out ((Gd.adds HG.out HO.out).add HOKP.out)
          rw [List.take_add_one, HPK.out, Option.toList_some]
          exact h1), Lib.hid (by
          rw [List.take_add_one, HPK.out, Option.toList_some]
          exact oksM_snoc.2 ⟨HO.out, HOKP.out⟩), HB6⟩
        case measure => simp [intOf]; omega
      rw [hF] at hla
      replace hla : (Instr.lookup 104 (.map (some M)) (.string (bs (key L))) true).run Tryz.prog w3 = .ok (.tuple #[.int .i64 0, .bool false]) w3 := hla
      rw [hi] at hrf
      have hrf2 : (Instr.lookup 86 (.map (some gR)) (.string (bs (key L))) true).run Tryz.prog w3 = .ok (.tuple #[.int .i64 0, .bool false]) w3 := hrf
      clear hrf hF hi hwv
      go_upto_region 16 with fail
      have hd6 : decide (T < 0) = false := decide_eq_false (by omega)
      go_upto_region 18 with fail
      refine wp_region_known [(2, .int .i64 T), (6, .int .i64 0)] (by kernel_rfl) 143 (by kernel_rfl) rfl ?_
      repeat (first
        | (refine Chain.step (v := ?_) (a' := ?_) rfl rfl rfl ?_ ?_ ?_; rotate_left 2; (focus (intro w; go_simp; try with_reducible rfl)); focus (simp only [Act.put, pqA, pqS, pqZ]; try rfl))
        | (refine Chain.call (i := 2) (a' := ?_) _ rfl rfl rfl (fun wx hw => ?_) ?_ ?_; rotate_left 1; (focus ((have y0 := (BP3.below hw).cell (i := 1) rfl; go_simp; first | exact ⟨rfl, rB⟩ | exact rB))); focus (simp only [Act.put, pqA, pqS, pqZ]; try rfl))
        | (refine Chain.call (i := 6) (a' := ?_) _ rfl rfl rfl (fun wx hw => ?_) ?_ ?_; rotate_left 1; (focus ((have y0 := (hd3.below hw).cell (i := 8) rfl; go_simp; first | exact ⟨rfl, rB⟩ | exact rB))); focus (simp only [Act.put, pqA, pqS, pqZ]; try rfl))
        | (refine Chain.skip (a' := ?_) rfl rfl rfl ?_ ?_; rotate_left 1; focus (simp only [Act.put, pqA, pqS, pqZ]; try rfl)))
      refine Chain.end_ (fun wz hwz _ => ?_)
      have HOKP := Lib.hid (KF.out (fun h => by cases h))
      go_upto_region 22 with fail
      obtain ⟨sN, hsN, hlenf⟩ := HK3.out.of_.lenB mtyO
      simp only at hlenf
      have HLN := Lib.hid hlenf
      have hsN2 : (sN : Int) ≤ 100000 := by omega
      clear hlenf hla hrf2 KF
      have wr1 : IntKind.i64.wrap ((sN : Int) + ((f : Int) + 1)) = (sN : Int) + ((f : Int) + 1) := by rw [IntKind.wrap_i64]; omega
      have wr2 : IntKind.i64.wrap (gn + (j : Int)) = gn + (j : Int) := by rw [IntKind.wrap_i64]; omega
      have wr3 : IntKind.i64.wrap (gn + (j : Int) + 1) = gn + (j : Int) + 1 := by rw [IntKind.wrap_i64]; omega
      by_cases e1 : cs < (sN : Int) + ((f : Int) + 1)
      case' pos =>
        have he1 : decide (cs < (sN : Int) + ((f : Int) + 1)) = true := decide_eq_true (by omega)
        refine wp_region_known [(3, .map (some gO)), (4, .int .i64 (sN : Nat)), (11, .int .i64 cs)] (by kernel_rfl) 143 (by kernel_rfl) rfl ?_
        repeat (first
          | (refine Chain.step (v := ?_) (a' := ?_) rfl rfl rfl ?_ ?_ ?_; rotate_left 2; (focus (intro w; go_simp; try with_reducible rfl)); focus (simp only [Act.put, pqA, pqS, pqZ]; try rfl))
          | (refine Chain.call (i := 3) (a' := ?_) _ rfl rfl rfl (fun wx hw => ?_) ?_ ?_; rotate_left 1; (focus ((have y0 := (hd3.below (below_trans hwz hw)).cell (i := 4) rfl; go_simp; first | exact ⟨rfl, rB⟩ | exact rB))); focus (simp only [Act.put, pqA, pqS, pqZ]; try rfl))
          | (refine Chain.call (i := 4) (a' := ?_) _ rfl rfl rfl (fun wx hw => ?_) ?_ ?_; rotate_left 1; (focus ((have y0 := fun ty => HLN.out wx ty (below_trans hwz hw); go_simp; first | exact ⟨rfl, rB⟩ | exact rB))); focus (simp only [Act.put, pqA, pqS, pqZ]; try rfl))
          | (refine Chain.call (i := 11) (a' := ?_) _ rfl rfl rfl (fun wx hw => ?_) ?_ ?_; rotate_left 1; (focus ((have y0 := (hd3.below (below_trans hwz hw)).cell (i := 0) rfl; go_simp; first | exact ⟨rfl, rB⟩ | exact rB))); focus (simp only [Act.put, pqA, pqS, pqZ]; try rfl))
          | (refine Chain.skip (a' := ?_) rfl rfl rfl ?_ ?_; rotate_left 1; focus (simp only [Act.put, pqA, pqS, pqZ]; try rfl)))
        refine Chain.end_ (fun wy hwy _ => ?_)
        go_wp2_with fail
        go_ret2
        exact RetChk.bad (below_trans HB3.out (below_trans hwz hwy)) hjl HO.out
      have he1 : decide (cs < (sN : Int) + ((f : Int) + 1)) = false := decide_eq_false (by omega)
      by_cases e2 : cm < gn + (j : Int) + 1
      case' pos =>
        have he2 : decide (cm < gn + (j : Int) + 1) = true := decide_eq_true (by omega)
        refine wp_region_known [(3, .map (some gO)), (4, .int .i64 (sN : Nat)), (11, .int .i64 cs), (17, .int .i64 gn), (25, .int .i64 cm)] (by kernel_rfl) 143 (by kernel_rfl) rfl ?_
        repeat (first
          | (refine Chain.step (v := ?_) (a' := ?_) rfl rfl rfl ?_ ?_ ?_; rotate_left 2; (focus (intro w; go_simp; try with_reducible rfl)); focus (simp only [Act.put, pqA, pqS, pqZ]; try rfl))
          | (refine Chain.call (i := 3) (a' := ?_) _ rfl rfl rfl (fun wx hw => ?_) ?_ ?_; rotate_left 1; (focus ((have y0 := (hd3.below (below_trans hwz hw)).cell (i := 4) rfl; go_simp; first | exact ⟨rfl, rB⟩ | exact rB))); focus (simp only [Act.put, pqA, pqS, pqZ]; try rfl))
          | (refine Chain.call (i := 4) (a' := ?_) _ rfl rfl rfl (fun wx hw => ?_) ?_ ?_; rotate_left 1; (focus ((have y0 := fun ty => HLN.out wx ty (below_trans hwz hw); go_simp; first | exact ⟨rfl, rB⟩ | exact rB))); focus (simp only [Act.put, pqA, pqS, pqZ]; try rfl))
          | (refine Chain.call (i := 11) (a' := ?_) _ rfl rfl rfl (fun wx hw => ?_) ?_ ?_; rotate_left 1; (focus ((have y0 := (hd3.below (below_trans hwz hw)).cell (i := 0) rfl; go_simp; first | exact ⟨rfl, rB⟩ | exact rB))); focus (simp only [Act.put, pqA, pqS, pqZ]; try rfl))
          | (refine Chain.call (i := 17) (a' := ?_) _ rfl rfl rfl (fun wx hw => ?_) ?_ ?_; rotate_left 1; (focus ((have y0 := (hd3.below (below_trans hwz hw)).cell (i := 7) rfl; go_simp; first | exact ⟨rfl, rB⟩ | exact rB))); focus (simp only [Act.put, pqA, pqS, pqZ]; try rfl))
          | (refine Chain.call (i := 25) (a' := ?_) _ rfl rfl rfl (fun wx hw => ?_) ?_ ?_; rotate_left 1; (focus ((have y0 := (hd3.below (below_trans hwz hw)).cell (i := 1) rfl; go_simp; first | exact ⟨rfl, rB⟩ | exact rB))); focus (simp only [Act.put, pqA, pqS, pqZ]; try rfl))
          | (refine Chain.skip (a' := ?_) rfl rfl rfl ?_ ?_; rotate_left 1; focus (simp only [Act.put, pqA, pqS, pqZ]; try rfl)))
        refine Chain.end_ (fun wy hwy _ => ?_)
        go_wp2_with fail
        go_ret2
        exact RetChk.bad (below_trans HB3.out (below_trans hwz hwy)) hjl HO.out
      have he2 : decide (cm < gn + (j : Int) + 1) = false := decide_eq_false (by omega)
      refine wp_region_known [(3, .map (some gO)), (4, .int .i64 (sN : Nat)), (11, .int .i64 cs), (17, .int .i64 gn), (25, .int .i64 cm)] (by kernel_rfl) 143 (by kernel_rfl) rfl ?_
      repeat (first
        | (refine Chain.step (v := ?_) (a' := ?_) rfl rfl rfl ?_ ?_ ?_; rotate_left 2; (focus (intro w; go_simp; try with_reducible rfl)); focus (simp only [Act.put, pqA, pqS, pqZ]; try rfl))
        | (refine Chain.call (i := 3) (a' := ?_) _ rfl rfl rfl (fun wx hw => ?_) ?_ ?_; rotate_left 1; (focus ((have y0 := (hd3.below (below_trans hwz hw)).cell (i := 4) rfl; go_simp; first | exact ⟨rfl, rB⟩ | exact rB))); focus (simp only [Act.put, pqA, pqS, pqZ]; try rfl))
        | (refine Chain.call (i := 4) (a' := ?_) _ rfl rfl rfl (fun wx hw => ?_) ?_ ?_; rotate_left 1; (focus ((have y0 := fun ty => HLN.out wx ty (below_trans hwz hw); go_simp; first | exact ⟨rfl, rB⟩ | exact rB))); focus (simp only [Act.put, pqA, pqS, pqZ]; try rfl))
        | (refine Chain.call (i := 11) (a' := ?_) _ rfl rfl rfl (fun wx hw => ?_) ?_ ?_; rotate_left 1; (focus ((have y0 := (hd3.below (below_trans hwz hw)).cell (i := 0) rfl; go_simp; first | exact ⟨rfl, rB⟩ | exact rB))); focus (simp only [Act.put, pqA, pqS, pqZ]; try rfl))
        | (refine Chain.call (i := 17) (a' := ?_) _ rfl rfl rfl (fun wx hw => ?_) ?_ ?_; rotate_left 1; (focus ((have y0 := (hd3.below (below_trans hwz hw)).cell (i := 7) rfl; go_simp; first | exact ⟨rfl, rB⟩ | exact rB))); focus (simp only [Act.put, pqA, pqS, pqZ]; try rfl))
        | (refine Chain.call (i := 25) (a' := ?_) _ rfl rfl rfl (fun wx hw => ?_) ?_ ?_; rotate_left 1; (focus ((have y0 := (hd3.below (below_trans hwz hw)).cell (i := 1) rfl; go_simp; first | exact ⟨rfl, rB⟩ | exact rB))); focus (simp only [Act.put, pqA, pqS, pqZ]; try rfl))
        | (refine Chain.skip (a' := ?_) rfl rfl rfl ?_ ?_; rotate_left 1; focus (simp only [Act.put, pqA, pqS, pqZ]; try rfl)))
      refine Chain.end_ (fun wy hwy _ => ?_)
      have BP5 := BP3.below (below_trans hwz hwy)
      have q9 := BP5.cell (i := 1) rfl
      have HM5 := Lib.hid (HM4.out.below (below_trans hwz hwy))
      have HB5 := Lib.hid (below_trans HB3.out (below_trans hwz hwy))
      have hnl : n < maxLen := by unfold maxLen; omega
      clear he1 he2 e1 e2 hwz hwy HB3 HM4
      go_wp2_with (at_mapUpdate; refine wpList_update_mf rfl _ _ _ 104 rfl mtyL rfl HM5.out hnl (key L) rfl hkl T rfl ?_; intro w6 hm6 hg6)
      have HM6 := Lib.hid hm6
      have HB6 := Lib.hid (HB5.out.trans (below_grown hg6 HMW.out HB5.out.size))
      clear hm6 hg6
      go_roundw
      case rel => exact ⟨j + 1, f + 1, n + 1, _, by go_num, by go_num, by omega, by omega, by omega, HM6, Lib.hid (by
        have h1 := HI.out.step (p := (L, (T, V))) HLO.out ((Gd.adds HG.out HO.out).add HOKP.out)
        rw [List.take_add_one, HPK.out, Option.toList_some]
        exact h1), Lib.hid (by
        rw [List.take_add_one, HPK.out, Option.toList_some]
        exact oksM_snoc.2 ⟨HO.out, HOKP.out⟩), HB6⟩
      case measure => simp [intOf]; omega
    · obtain rfl : j = l.length := by omega
      have ho : OksM h (l.map plP) := by
        have := HO.out
        rwa [List.take_of_length_le (by rw [HLEN.out]; exact Nat.le_refl _)] at this
      have HZ := Lib.hid ho
      clear ho
      go_wp2_with fail
      go_ret2
      exact ⟨HB.out, .inl ⟨rfl, HZ.out⟩⟩
end Go.Proofs.YtnoebccoaeiakaaGreatDoor

namespace Go.Proofs.YtnoebccoaeiakaaGreatDoor
open Go.RowKit Go.Bar Go.Bar.Leb Go.Bar.Frm

theorem u32_low (c b k : Nat) (hc : c < 4294967296) (hb : b < 256) : bits .and .u32 (bits .xor .u32 (c : Int) ((b / 2 ^ k : Nat) : Int)) 1 = (((c + b / 2 ^ k) % 2 : Nat) : Int) := by
  have h1 : b / 2 ^ k < 256 := Nat.lt_of_le_of_lt (Nat.div_le_self _ _) hb
  rw [u32_xor_nat c _ hc (by omega)]
  have h2 := Nat.xor_lt_two_pow (n := 32) (x := c) (y := b / 2 ^ k) (by omega) (by omega)
  have := u32_and_nat (c ^^^ (b / 2 ^ k)) 1 h2 (by omega)
  rw [show ((1 : Nat) : Int) = 1 from rfl] at this
  rw [this, Nat.and_one_is_mod]
  congr 1
  have := @Nat.xor_mod_two_eq_one c (b / 2 ^ k)
  omega

theorem more_cast (b j : Nat) (hb : b < 256) : (b : Int) / 2 ^ j % 4294967296 = ((b / 2 ^ j : Nat) : Int) := by
  have h1 : b / 2 ^ j < 256 := Nat.lt_of_le_of_lt (Nat.div_le_self _ _) hb
  have e : (b : Int) / 2 ^ j = ((b / 2 ^ j : Nat) : Int) := by
    rw [Int.natCast_ediv, Int.natCast_pow]; rfl
  rw [e]
  clear e
  generalize b / 2 ^ j = x at *
  omega
theorem more_yes {C b j : Nat} (hC : C < 4294967296) (hb : b < 256) (h : (bits .and .u32 (bits .xor .u32 (C : Int) ((b : Int) / 2 ^ j % 4294967296)) 1 == 1) = true) :
    bits .xor .u32 ((C : Int) / 2) 2197175160 = ((bstep C (b / 2 ^ j) : Nat) : Int) := by
  rw [more_cast b j hb, u32_low C b j hC hb, beq_iff_eq] at h
  unfold bstep
  rw [if_pos (by omega)]
  have := u32_xor_nat (C / 2) 2197175160 (by omega) (by omega)
  rw [← this]
  rfl
theorem more_no {C b j : Nat} (hC : C < 4294967296) (hb : b < 256) (h : (bits .and .u32 (bits .xor .u32 (C : Int) ((b : Int) / 2 ^ j % 4294967296)) 1 == 1) = false) :
    (C : Int) / 2 = ((bstep C (b / 2 ^ j) : Nat) : Int) := by
  rw [more_cast b j hb, u32_low C b j hC hb, beq_eq_false_iff_ne] at h
  unfold bstep
  rw [if_neg (by omega)]
  rfl
theorem no_bits (n : Nat) (h : n < 4294967296) : bits .xor .u32 IntKind.u32.max (n : Int) = ((no n : Nat) : Int) := by
  have h1 := u32_xor_nat 4294967295 n (by omega) h
  have e : IntKind.u32.max = ((4294967295 : Nat) : Int) := rfl
  rw [e, h1]
  unfold no
  congr 1
  apply Nat.eq_of_testBit_eq
  intro i
  rw [Nat.testBit_xor]
  have h2 := Nat.testBit_two_pow_sub_succ (x := n) (n := 32) h i
  rw [show 2 ^ 32 - (n + 1) = 4294967295 - n by omega] at h2
  rw [h2]
  have h3 := Nat.testBit_two_pow_sub_one 32 i
  rw [show (2 : Nat) ^ 32 - 1 = 4294967295 from rfl] at h3
  rw [h3]
  by_cases hi : i < 32
  · simp [hi]
  · have := Nat.testBit_lt_two_pow (x := n) (i := i) (Nat.lt_of_lt_of_le h (show 4294967296 ≤ 2 ^ i from Nat.pow_le_pow_right (show 0 < 2 by decide) (show 32 ≤ i by omega)))
    simp [hi, this]

set_option maxHeartbeats 400000 in
set_option maxRecDepth 10000 in
theorem more_any (s : ByteArray) (n : Nat) (w : World) (hs : s.size ≤ maxLen) (hn : n < 4294967296) :
    Calls Tryz.prog 50 #[.int .u32 n, .string s] w fun e w' => e = .returned (.int .u32 (more n s.data.toList)) ∧ w = w' := by
  unfold maxLen at hs
  go_enter Tryz.func50, Tryz.ntmps50
  go_wp2
  go_loop [5, 13] (fun c i => ∃ k : Nat, k ≤ s.size ∧ i = .int .i64 k ∧ c = .int .u32 (crc (no n) (s.data.toList.take k))) (fun _ i => s.size - (intOf i).toNat)
  case atStart => exact ⟨0, Nat.zero_le _, rfl, by rw [no_bits n hn]; rfl⟩
  case round =>
    obtain ⟨k, hk, rfl, rfl⟩ := hrel
    have hC := crc_lt (s.data.toList.take k) (no_lt n)
    by_cases hlt : k < s.size
    · go_wp2
      go_loop [5, 16] (fun c i => ∃ j : Nat, j ≤ 8 ∧ i = .int .i64 j ∧ c = .int .u32 (bsteps j (crc (no n) (s.data.toList.take k)) s[k].toNat)) (fun _ i => 8 - (intOf i).toNat)
      case atStart => exact ⟨0, by omega, rfl, rfl⟩
      case round =>
        obtain ⟨j, hj, rfl, rfl⟩ := hrel
        have hD := bsteps_lt j (b := s[k].toNat) hC
        by_cases hj8 : j < 8
        · go_wp2
          all_goals
            go_round
            case rel => exact ⟨j + 1, by omega, by go_num, by first | rw [more_yes hD (UInt8.toNat_lt _) (by assumption)]; rfl | rw [more_no hD (UInt8.toNat_lt _) (by assumption)]; rfl⟩
            case measure => simp [intOf]; omega
        · obtain rfl : j = 8 := by omega
          have e := crc_snoc (s.data.toList.take k) s[k] (no n)
          have e2 : s.data.toList.take k ++ [s[k]] = s.data.toList.take (k + 1) := by
            rw [List.take_succ_eq_append_getElem (by simpa using hlt)]; rfl
          rw [e2] at e
          have HE := Lib.hid e
          clear e e2
          go_wp2
          go_round
          case rel => exact ⟨k + 1, by omega, by go_num, by rw [HE.out]⟩
          case measure => simp [intOf]; omega
    · go_wp2
      go_ret
      rw [no_bits _ hC, List.take_of_length_le (by rw [← size_eq]; omega)]
      exact ⟨rfl, rfl⟩

theorem more_of {m : Nat} (s : ByteArray) (n : Nat) (w : World) (hs : s.size ≤ maxLen) (hn : n < 4294967296) (h : more n s.data.toList = m) :
    Calls Tryz.prog 50 #[.int .u32 n, .string s] w fun e w' => e = .returned (.int .u32 m) ∧ w = w' := by
  rw [← h]
  exact more_any s n w hs hn

set_option maxHeartbeats 400000 in
theorem sum_any (s : ByteArray) (w : World) (hs : s.size ≤ maxLen) :
    Calls Tryz.prog 21 #[.string s] w fun e w' => e = .returned (.int .u32 (sum s.data.toList)) ∧ w = w' := by
  go_enter Tryz.func21, Tryz.ntmps21
  go_wp2_with fail
  refine (more_any s 0 _ hs (by omega)).mono ?_
  rintro e w' ⟨rfl, rfl⟩
  go_wp2_with fail
  go_ret
  exact ⟨rfl, rfl⟩

attribute [local go_sem ↓] Go.wp_at_zero Go.wp_at_succ

theorem byte4 (n : Nat) : bcs (sum4 n) = [.int .u8 ((n % 256 : Nat) : Int), .int .u8 ((n / 256 % 256 : Nat) : Int), .int .u8 ((n / 65536 % 256 : Nat) : Int), .int .u8 ((n / 16777216 % 256 : Nat) : Int)] := by
  simp [bcs, sum4]

theorem src4 {P : Program} {t e : TypeId} (hT : P.underlying t = some (.slice e)) (w : World) (n : Nat) (z0 z1 z2 z3 : Int) (h0 : z0 = ((n % 256 : Nat) : Int)) (h1 : z1 = ((n / 256 % 256 : Nat) : Int)) (h2 : z2 = ((n / 65536 % 256 : Nat) : Int)) (h3 : z3 = ((n / 16777216 % 256 : Nat) : Int)) :
    Src P 1 t (.slice (some ⟨w.heap.size, 0, none⟩) 4 4) (sum4 n).length (bcs (sum4 n)) (w.alloc (.cells #[.int .u8 z0, .int .u8 z1, .int .u8 z2, .int .u8 z3] e)) := by
  subst h0; subst h1; subst h2; subst h3
  refine Src.ofSlice _ hT _ _ _ _ rfl (fun j u hu => ?_) (fun u hu => ?_)
  · rw [byte4] at hu
    rw [addr_add, World.cell?_alloc_new, Nat.zero_add, ← hu]
    rcases j with _ | _ | _ | _ | j <;> rfl
  · simp only [bcs, List.mem_map] at hu
    obtain ⟨b, _, rfl⟩ := hu
    rfl

set_option maxHeartbeats 1000000 in
set_option maxRecDepth 10000 in
theorem append_any (V : Value) (xs : List UInt8) (k : UInt8) (d : ByteArray) (W : World) (hx : xs.length + 15 + d.size ≤ 140737488355328) (hb : BBuf W 5 V xs) :
    Calls Tryz.prog 64 #[V, .agg #[.int .u8 k.toNat, .string d]] W (RetB W V 5 xs (rec (k, d.data.toList))) := by
  have hul := u_len d.size (by omega)
  have hc1 := conv_one bytes_ty 9 Tryz.underlying9 (W.alloc (.cells #[.int .u8 k.toNat, .string d] 112)).drew (k.toNat : Int) k rfl
  rw [show (World.alloc (W.alloc (.cells #[.int .u8 k.toNat, .string d] 112)).drew (.cells #[.int .u8 k.toNat] 5)) = ((W.alloc (.cells #[.int .u8 k.toNat, .string d] 112)).alloc (.cells #[.int .u8 k.toNat] 5)).drew from rfl, show (W.alloc (.cells #[.int .u8 k.toNat, .string d] 112)).drew.heap.size = W.heap.size + 1 by simp] at hc1
  have hd : d.size ≤ maxLen := by unfold maxLen; omega
  have hs1 : (bs [k]).size ≤ maxLen := (by decide : 1 ≤ maxLen)
  have hs2 := sum_lt [k]
  have hrs : rsum (k, d.data.toList) < 4294967296 := sum_lt _
  go_enter Tryz.func64, Tryz.ntmps64
  go_upto_region 1 with fail
  go_cut [5] (fun s5 wx => s5 = .int .u32 (rsum (k, d.data.toList)) ∧ Below W.heap.size W wx ∧ W.heap.size < wx.heap.size ∧ wx.cell? ⟨W.heap.size, 0, none⟩ = some (.int .u8 k.toNat) ∧ wx.cell? ⟨W.heap.size, 1, none⟩ = some (.string d))
  case first =>
    go_region_with (first
      | (go_at_call 21; refine (sum_any (bs [k]) _ hs1).mono ?_; rintro e w' ⟨rfl, rfl⟩)
      | (go_at_call 50; refine (more_any d (sum [k]) _ hd hs2).mono ?_; rintro e w' ⟨rfl, rfl⟩))
    all_goals (go_wp2_with fail; go_meet; exact ⟨by rw [more_sum]; rfl, (((Below.refl _ _).alloc (Nat.le_refl _) _).alloc (by simp) _).drew, by simp; omega, by simp, by simp⟩)
  case rest =>
    obtain ⟨rfl, hbl, hsz, c0, c1⟩ := hcut
    clear hc1
    have hb0 := hb.below hbl
    have happ := BApp.start' hb0
    go_wp2_with (at_builtin; refine wpList_append_byte rfl (.tmp 14) (.tmp 17) 66 rfl bytes_ty _ rfl rfl happ rfl (by simp; omega) ?_; intro v1 w1 happ1; clear happ; have c1' := (happ1.cell_new hb (Nat.le_refl _) hsz).trans c1; clear c0 c1 hb0)
    refine (uint_any v1 (xs ++ [k]) d.size _ (by omega) (by rw [List.length_append]; simp; omega) happ1.buf).mono ?_
    rintro e w2 ⟨v2, rfl, happ2⟩
    have happ2 := happ1.trans happ2
    have c2 := (happ2.cell_new hb (Nat.le_refl _) hsz).trans (((happ1.cell_new hb (Nat.le_refl _) hsz).symm).trans c1')
    clear happ1 c1'
    have hsrc := src4 (P := Tryz.prog) Tryz.underlying66 w2 (rsum (k, d.data.toList)) ((rsum (k, d.data.toList) : Int) % 256) ((rsum (k, d.data.toList) : Int) / 256 % 256) ((rsum (k, d.data.toList) : Int) / 65536 % 256) ((rsum (k, d.data.toList) : Int) / 16777216) (by omega) (by omega) (by omega) (by omega)
    have HS := Lib.hid hsrc
    clear hsrc
    go_wp2_with (first
      | (at_builtin; refine wpList_append_src rfl (.tmp 25) (.tmp 37) 66 66 rfl bytes_ty rfl (happ2.alloc _) rfl HS.out (by simp [sum4_len]; omega) ?_; intro v3 w3 happ3; have c3 := (happ3.cell_new hb (Nat.le_refl _) hsz).trans (((happ2.cell_new hb (Nat.le_refl _) hsz).symm).trans c2); clear HS c2 happ2)
      | (at_builtin; refine wpList_append_str rfl (.tmp 39) (.tmp 41) 66 9 rfl bytes_ty Tryz.underlying9 d rfl happ3 rfl (by simp [sum4_len]; omega) ?_; intro v4 w4 happ4))
    go_ret
    exact ⟨v4, rfl, by
      have := happ4.after hbl hb
      have e : [] ++ [k] ++ u d.size ++ sum4 (rsum (k, d.data.toList)) ++ d.data.toList = rec (k, d.data.toList) := by simp [rec]
      rw [e] at this
      exact this⟩

end Go.Proofs.YtnoebccoaeiakaaGreatDoor
