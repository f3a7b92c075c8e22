/-
  Layer 25: the walks of ledger's find and has, and of slices' BinarySearchFunc, Index, Contains that they reach.
-/
import Derived.Test.YtjklcojnbcemoaaGreatDoorZLdgM
import Derived.Test.YtjklcojnbcemoaaGreatDoorZMrgA

namespace Go.Proofs.YtjklcojnbcemoaaGreatDoor
open Go.RowKit Go.Bar Go.Bar.Leb Go.Bar.Lab Go.Bar.Xor Go.Bar.Mrg

/-- a place, or -1 -/
def SmIdx (l : List Sm) (s : Sm) (w : World) (e : Ending) (w' : World) : Prop := ∃ z : Int, e = .returned (.int .i64 z) ∧ decide (0 ≤ z) = decide (s ∈ l) ∧ Below w.heap.size w w'

set_option maxHeartbeats 2000000 in
set_option maxRecDepth 10000 in
theorem smIndex_any (v : Value) (l : List Sm) (s : Sm) (w : World) (h : SmsAt w v l) :
    Calls Tryz.prog 65 #[v, .agg #[.int .i64 s.1, .int .u64 (s.2 : Nat)]] w (SmIdx l s w) := by
  obtain ⟨A, c, rfl, hlc, hcm⟩ := h.shape
  unfold maxLen at hcm
  obtain ⟨W, hW⟩ : ∃ W, W = w.alloc (.cells #[.int .i64 s.1, .int .u64 (s.2 : Nat)] 42) := ⟨_, rfl⟩
  have hbW : Below w.heap.size w W := by rw [hW]; exact below_alloc1 _ _
  have hX : Blk W w.heap.size 42 #[.int .i64 s.1, .int .u64 (s.2 : Nat)] := by rw [hW]; exact Blk.new _ _ _
  have HX := Lib.hid hX
  have HT := Lib.hid (h.below hbW)
  have HB := Lib.hid hbW
  clear hX hbW h
  obtain ⟨a, b⟩ := s
  dsimp only at *
  go_enter Tryz.func65, Tryz.ntmps65
  go_wp2_with fail
  rw [← hW]
  clear hW
  go_loopw [8] (fun i wr => ∃ k : Nat, k ≤ l.length ∧ i = .int .i64 k ∧ Below W.heap.size W wr ∧ Hid ((a, b) ∉ l.take k)) (fun i _ => l.length - (intOf i).toNat)
  case atStart => exact ⟨0, Nat.zero_le _, rfl, Below.refl _ _, Lib.hid (by simp)⟩
  case round =>
    obtain ⟨k, hk, rfl, hb, hx⟩ := hrel
    by_cases hgo : k < l.length
    · obtain ⟨y, hy⟩ : ∃ y, l[k]? = some y := ⟨_, List.getElem?_eq_getElem hgo⟩
      obtain ⟨p, q⟩ := y
      obtain ⟨bb, o, rfl, hbl, c0, c1⟩ := (HT.out.below hb).at_ hy
      have hci : (0 : Int) ≤ (k : Int) := by omega
      have hci2 : (k : Int) < l.length := by omega
      have HY := Lib.hid hy
      clear hy hbl c0 c1
      have hcase : (a = p ∧ b = q) ∨ a ≠ p ∨ (a = p ∧ b ≠ q) := by omega
      have hstep : ¬ (a = p ∧ b = q) → (a, b) ∉ l.take (k + 1) := fun hne => by
        rw [List.take_add_one, HY.out, List.mem_append]
        rintro (h1 | h1)
        · exact hx.out h1
        · simp at h1
          exact hne h1
      have HS := Lib.hid hstep
      clear hstep
      go_upto_region 4 with fail
      rcases hcase with ⟨h1, h2⟩ | h1 | ⟨h1, h2⟩
      case' inr.inl => have he : (a == p) = false := by rw [beq_eq_false_iff_ne]; exact h1
      case' inr.inr =>
        have he : (a == p) = true := by rw [beq_iff_eq]; exact h1
        have hf : ((b : Int) == (q : Int)) = false := by rw [beq_eq_false_iff_ne]; omega
      case' inl =>
        have he : (a == p) = true := by rw [beq_iff_eq]; exact h1
        have hf : ((b : Int) == (q : Int)) = true := by rw [beq_iff_eq]; omega
      case' inr.inl => have HS2 := Lib.hid (HS.out (fun h => h1 h.1))
      case' inr.inr => have HS2 := Lib.hid (HS.out (fun h => h2 h.2))
      case' inl => have HS2 := Lib.hid (show (a, b) ∈ l by rw [h1, h2]; exact List.mem_of_getElem? HY.out)
      all_goals
        clear h1 HS
        refine wp_region_facts [(0, (isV (.agg #[.int .i64 a, .int .u64 (b : Nat)]), noFact)), (4, (isV (.agg #[.int .i64 p, .int .u64 (q : Nat)]), noFact))] (by kernel_rfl) 19 (by kernel_rfl) rfl ?_ ?_ ?_
        · apply lookup_ne
          simp only [List.forall_mem_cons, List.not_mem_nil, false_imp_iff, implies_true, and_true]
          exact ⟨⟨_, rfl⟩, ⟨_, rfl⟩⟩
        · apply lookup_st
          simp only [List.forall_mem_cons, List.not_mem_nil, false_imp_iff, implies_true, and_true]
          refine ⟨?_, ?_⟩
          · exact fun _ _ _ _ _ => trivial
          · exact fun _ _ _ _ _ => trivial
        repeat (first
          | (refine Chain.step (v := ?_) (a' := ?_) rfl rfl rfl ?_ ?_ ?_
             rotate_left 2
             focus (intro w; go_simp; try with_reducible rfl)
             focus (simp only [Act.put, List.setIfInBounds_toArray, List.set_cons_succ, List.set_cons_zero]; try rfl))
          | (refine Chain.skip (a' := ?_) rfl rfl rfl ?_ ?_
             rotate_left 1
             focus (simp only [Act.put, List.setIfInBounds_toArray, List.set_cons_succ, List.set_cons_zero]; try rfl)))
        refine Chain.call' (a' := ?_) _ rfl rfl rfl rfl (fun wx hw hF => ?_) ?_ ?_
        rotate_left 1
        focus
          obtain ⟨g0, g1⟩ := Blk.c2 (HX.out.below (below_trans hb hw)); go_simp; first | exact ⟨rfl, Below.refl _ _⟩ | exact Below.refl _ _
        focus (simp only [Act.put, List.setIfInBounds_toArray, List.set_cons_succ, List.set_cons_zero]; try rfl)
        repeat (first
          | (refine Chain.step (v := ?_) (a' := ?_) rfl rfl rfl ?_ ?_ ?_
             rotate_left 2
             focus (intro w; go_simp; try with_reducible rfl)
             focus (simp only [Act.put, List.setIfInBounds_toArray, List.set_cons_succ, List.set_cons_zero]; try rfl))
          | (refine Chain.skip (a' := ?_) rfl rfl rfl ?_ ?_
             rotate_left 1
             focus (simp only [Act.put, List.setIfInBounds_toArray, List.set_cons_succ, List.set_cons_zero]; try rfl)))
        refine Chain.call' (a' := ?_) _ rfl rfl rfl rfl (fun wx hw hF => ?_) ?_ ?_
        rotate_left 1
        focus
          obtain ⟨_, _, he, _, p0, p1⟩ := (HT.out.below (below_trans hb hw)).at_ HY.out
          injection he with he
          injection he with e1 e2 _
          subst e1; subst e2
          go_simp; first | exact ⟨rfl, Below.refl _ _⟩ | exact Below.refl _ _
        focus (simp only [Act.put, List.setIfInBounds_toArray, List.set_cons_succ, List.set_cons_zero]; try rfl)
        repeat (first
          | (refine Chain.step (v := ?_) (a' := ?_) rfl rfl rfl ?_ ?_ ?_
             rotate_left 2
             focus (intro w; go_simp; try with_reducible rfl)
             focus (simp only [Act.put, List.setIfInBounds_toArray, List.set_cons_succ, List.set_cons_zero]; try rfl))
          | (refine Chain.skip (a' := ?_) rfl rfl rfl ?_ ?_
             rotate_left 1
             focus (simp only [Act.put, List.setIfInBounds_toArray, List.set_cons_succ, List.set_cons_zero]; try rfl)))
        refine Chain.end_ (fun wz hwz _ => ?_)
        go_wp2_with fail
      · go_ret
        exact ⟨_, rfl, by simp [HS2.out], below_trans HB.out (below_trans hb hwz)⟩
      all_goals
        go_roundw
        case rel => exact ⟨k + 1, by omega, by go_num, below_trans hb hwz, HS2⟩
        case measure => simp [intOf]; omega
    · have h0 := hx.out
      rw [List.take_of_length_le (by omega)] at h0
      have H0 := Lib.hid h0
      clear h0 hx
      go_wp2_with fail
      go_ret
      exact ⟨_, rfl, by simp [H0.out], below_trans HB.out hb⟩

set_option maxHeartbeats 1000000 in
set_option maxRecDepth 10000 in
theorem smContains_any (v : Value) (l : List Sm) (s : Sm) (w : World) (h : SmsAt w v l) :
    Calls Tryz.prog 46 #[v, .agg #[.int .i64 s.1, .int .u64 (s.2 : Nat)]] w (RetBelow w (.bool (decide (s ∈ l)))) := by
  have h1 := smIndex_any v l s _ (h.below (below_alloc1 w (.cells #[.int .i64 s.1, .int .u64 (s.2 : Nat)] 42)))
  have H1 := Lib.hid h1
  obtain ⟨A, c, rfl, hlc, hcm⟩ := h.shape
  clear h1 h
  go_enter Tryz.func46, Tryz.ntmps46
  go_wp2_with fail
  refine H1.out.mono ?_
  rintro e w' ⟨z, rfl, hz, hb⟩
  have HZ := Lib.hid hz
  clear hz
  go_wp2_with fail
  go_ret
  exact ⟨by rw [← HZ.out]; rfl, below_trans (below_alloc1 _ _) hb⟩

/-- the compare that the search is given -/
abbrev fvF : Value := .func (.func 64) #[] #[]

set_option maxHeartbeats 1000000 in
set_option maxRecDepth 10000 in
theorem findCmp_any (x : Rv) (v : Value) (L : List Pr) (w : World) (h : RAt w x) (hL : PsAt w v L) :
    Calls Tryz.prog 64 #[.agg #[.slice x.la x.ls.length x.lc, .slice x.sa x.ss.length x.sc], v] w (RetBelow w (.int .i64 (cmpL x.ls L))) := by
  obtain ⟨W, hW⟩ : ∃ W, W = w.alloc (.cells #[.slice x.la x.ls.length x.lc, .slice x.sa x.ss.length x.sc] 50) := ⟨_, rfl⟩
  have hbW : Below w.heap.size w W := by rw [hW]; exact below_alloc1 _ _
  have hX : Blk W w.heap.size 50 #[.slice x.la x.ls.length x.lc, .slice x.sa x.ss.length x.sc] := by rw [hW]; exact Blk.new _ _ _
  obtain ⟨c0, c1⟩ := hX.c2
  have hc := lcompare_any _ _ _ _ W (h.1.below hbW) (hL.below hbW)
  obtain ⟨Z, hZ⟩ : ∃ Z, Z = cmpL x.ls L := ⟨_, rfl⟩
  rw [← hZ] at hc ⊢
  obtain ⟨A, c, rfl, hlc, hcm⟩ := hL.shape
  have HC := Lib.hid hc
  clear hc hZ h hL hX
  go_enter Tryz.func64, Tryz.ntmps64
  go_wp2_with fail
  rw [← hW]
  clear hW
  go_wp2_with fail
  refine HC.out.mono ?_
  rintro e w' ⟨rfl, hb⟩
  go_wp2_with fail
  go_ret
  exact ⟨rfl, below_trans hbW hb⟩

/-- where a table's labels are, if they are there -/
def FndIx (t : List Rv) (L : List Pr) (w : World) (e : Ending) (w' : World) : Prop := ∃ (i : Nat) (b : Bool), e = .returned (.tuple #[.int .i64 i, .bool b]) ∧ Below w.heap.size w w' ∧ ((b = true ∧ ∃ x, t[i]? = some x ∧ rk (t.map plR) L = some x.ss) ∨ (b = false ∧ rk (t.map plR) L = none))

set_option maxHeartbeats 4000000 in
set_option maxRecDepth 10000 in
theorem bsearch_any (v lv : Value) (t : List Rv) (L : List Pr) (w : World) (h : TbAt w v t) (hL : PsAt w lv L) (hr : Rls (t.map plR)) (hn : t.length ≤ 1000000) :
    Calls Tryz.prog 63 #[v, lv, fvF] w (FndIx t L w) := by
  obtain ⟨A, c, rfl, hlc, hcm⟩ := h.shape
  obtain ⟨LA, Lc, rfl, hLc, hLm⟩ := hL.shape
  unfold maxLen at hcm hLm
  have hgt : ∀ (k : Nat) (x : Rv), t[k]? = some x → (t.map plR)[k]? = some (plR x) := fun k x hx => by rw [List.getElem?_map, hx]; rfl
  have HG := Lib.hid hgt
  have HT := Lib.hid h
  have HL := Lib.hid hL
  have HR := Lib.hid hr
  clear hr h hL hgt
  go_enter Tryz.func63, Tryz.ntmps63
  go_wp2_with fail
  go_loopw [9, 10, 11] (fun iv jv _ wr => ∃ (i j : Nat), iv = .int .i64 i ∧ jv = .int .i64 j ∧ i ≤ j ∧ j ≤ t.length ∧ Hid (∀ k r, k < i → (t.map plR)[k]? = some r → cmpL r.1 L < 0) ∧ Hid (∀ k r, j ≤ k → (t.map plR)[k]? = some r → 0 ≤ cmpL r.1 L) ∧ Below w.heap.size w wr) (fun iv jv _ _ => (intOf jv).toNat - (intOf iv).toNat)
  case atStart => exact ⟨0, t.length, rfl, rfl, Nat.zero_le _, Nat.le_refl _, Lib.hid (fun _ _ h => absurd h (Nat.not_lt_zero _)), Lib.hid (fun k r h1 h2 => by have := (List.getElem?_eq_some_iff.1 h2).1; rw [List.length_map] at this; omega), Below.refl _ _⟩
  case round =>
    obtain ⟨i, j, rfl, rfl, hij, hjn, HA, HB, hb⟩ := hrel
    by_cases hgo : i < j
    · obtain ⟨q, hq⟩ : ∃ q, q = (i + j) / 2 := ⟨_, rfl⟩
      have hq1 : i ≤ q := by omega
      have hq2 : q < j := by omega
      have u1 : IntKind.i64.wrap ((i : Int) + (j : Int)) = (i : Int) + (j : Int) := by rw [IntKind.wrap_i64]; omega
      have hgz : (i : Int) < (j : Int) := by omega
      have hqz : ((i : Int) + (j : Int)) / 2 = (q : Int) := by omega
      have hqn : q < t.length := by omega
      have hqn2 : (q : Int) < (t.length : Int) := by omega
      have hqn3 : (0 : Int) ≤ (q : Int) := by omega
      obtain ⟨x, hx⟩ : ∃ x, t[q]? = some x := ⟨_, List.getElem?_eq_getElem hqn⟩
      obtain ⟨bb, o, rfl, c0, c1, hrx⟩ := (HT.out.below hb).at_ hx
      obtain ⟨Z, hZ⟩ : ∃ Z, Z = cmpL x.ls L := ⟨_, rfl⟩
      have hc := findCmp_any x (.slice LA L.length Lc) L wr hrx (HL.out.below hb)
      rw [← hZ] at hc
      have hA2 : Z < 0 → ∀ k r, k < q + 1 → (t.map plR)[k]? = some r → cmpL r.1 L < 0 := fun hlz k r k1 k2 => bs_lo HR.out (HG.out q x hx) (by show cmpL x.ls L < 0; rw [← hZ]; exact hlz) k2 (by omega)
      have hB2 : ¬ Z < 0 → ∀ k r, q ≤ k → (t.map plR)[k]? = some r → 0 ≤ cmpL r.1 L := fun hlz k r k1 k2 => bs_hi HR.out (HG.out q x hx) (by show 0 ≤ cmpL x.ls L; rw [← hZ]; omega) k2 k1
      have HA2 := Lib.hid hA2
      have HB2 := Lib.hid hB2
      have HC := Lib.hid hc
      clear hc hZ hA2 hB2 hq hx hrx
      go_wp2_with fail
      refine HC.out.mono ?_
      rintro e w' ⟨rfl, hb2⟩
      have hb3 := below_trans hb hb2
      clear hb2 HC c0 c1
      by_cases hlz : Z < 0
      · have HA3 := Lib.hid (HA2.out (by omega))
        clear HA2 HB2 HA
        go_wp2_with fail
        go_roundw
        case rel => exact ⟨q + 1, j, by go_num, rfl, by omega, by omega, HA3, HB, hb3⟩
        case measure => simp [intOf]; omega
      · have HB3 := Lib.hid (HB2.out (by omega))
        clear HA2 HB2 HB
        go_wp2_with fail
        go_roundw
        case rel => exact ⟨i, q, rfl, rfl, by omega, by omega, HA, HB3, hb3⟩
        case measure => simp [intOf]; omega
    · obtain rfl : i = j := by omega
      have hfin := bs_find HR.out HA.out HB.out
      have HFIN := Lib.hid hfin
      clear hfin HA HB
      by_cases hin : i < t.length
      · obtain ⟨x, hx⟩ : ∃ x, t[i]? = some x := ⟨_, List.getElem?_eq_getElem hin⟩
        obtain ⟨bb, o, rfl, c0, c1, hrx⟩ := (HT.out.below hb).at_ hx
        obtain ⟨Z, hZ⟩ : ∃ Z, Z = cmpL x.ls L := ⟨_, rfl⟩
        have hc := findCmp_any x (.slice LA L.length Lc) L wr hrx (HL.out.below hb)
        rw [← hZ] at hc
        have hz1 : (Z = 0 ∧ rk (t.map plR) L = some x.ss) ∨ (Z ≠ 0 ∧ rk (t.map plR) L = none) := by
          have hg := HG.out i x hx
          rcases HFIN.out with ⟨r, h1, h2, h3⟩ | ⟨h1, h2⟩
          · rw [hg] at h1
            injection h1 with h1
            subst h1
            exact .inl ⟨hZ.trans h2, h3⟩
          · exact .inr ⟨fun h0 => h1 _ hg (hZ.symm.trans h0), h2⟩
        have HZ := Lib.hid hz1
        have HX := Lib.hid hx
        have HC := Lib.hid hc
        have hi1 : (i : Int) < (t.length : Int) := by omega
        have hi2 : (0 : Int) ≤ (i : Int) := by omega
        clear hc hZ hz1 hx hrx HFIN
        go_wp2_with fail
        refine HC.out.mono ?_
        rintro e w' ⟨rfl, hb2⟩
        go_wp2_with fail
        go_ret2
        refine ⟨i, _, rfl, below_trans hb hb2, ?_⟩
        rcases HZ.out with ⟨h1, h2⟩ | ⟨h1, h2⟩
        · exact .inl ⟨by rw [h1]; rfl, x, HX.out, h2⟩
        · exact .inr ⟨by rw [beq_eq_false_iff_ne]; exact h1, h2⟩
      · obtain rfl : i = t.length := by omega
        have hno : rk (t.map plR) L = none := by
          rcases HFIN.out with ⟨r, h1, _⟩ | ⟨_, h2⟩
          · have := (List.getElem?_eq_some_iff.1 h1).1
            rw [List.length_map] at this
            omega
          · exact h2
        have HNO := Lib.hid hno
        clear hno HFIN
        go_wp2_with fail
        go_ret2
        exact ⟨_, false, rfl, hb, .inr ⟨rfl, HNO.out⟩⟩

theorem sms_none (w : World) : SmsAt w (.slice none 0 0) [] := ⟨by simp [smc], _, _, rfl, Nat.le_refl _, by decide, fun h => absurd h (by simp)⟩
/-- a row of labels, or none -/
def FndSm (R : List Row) (L : List Pr) (w : World) (e : Ending) (w' : World) : Prop := ∃ (v : Value) (b : Bool), e = .returned (.tuple #[v, .bool b]) ∧ Below w.heap.size w w' ∧ SmsAt w' v ((rk R L).getD [])

set_option maxHeartbeats 2000000 in
set_option maxRecDepth 10000 in
theorem find_any (v lv : Value) (t : List Rv) (L : List Pr) (w : World) (h : TbAt w v t) (hL : PsAt w lv L) (hr : Rls (t.map plR)) (hn : t.length ≤ 1000000) :
    Calls Tryz.prog 45 #[v, lv] w (FndSm (t.map plR) L w) := by
  have H1 := Lib.hid (bsearch_any v lv t L w h hL hr hn)
  obtain ⟨A, c, rfl, hlc, hcm⟩ := h.shape
  obtain ⟨LA, Lc, rfl, hLc, hLm⟩ := hL.shape
  unfold maxLen at hcm hLm
  obtain ⟨R, hR⟩ : ∃ R, R = rk (t.map plR) L := ⟨_, rfl⟩
  have HT := Lib.hid h
  unfold FndSm
  rw [← hR]
  have HR := Lib.hid hR
  clear hL hr h hR
  go_enter Tryz.func45, Tryz.ntmps45
  go_wp2_with fail
  refine H1.out.mono ?_
  rintro e w' ⟨i, b, rfl, hb, hcase⟩
  rcases hcase with ⟨rfl, x, hx, hk⟩ | ⟨rfl, hk⟩
  · obtain ⟨bb, o, rfl, c0, c1, hrx⟩ := (HT.out.below hb).at_ hx
    have hlt := (List.getElem?_eq_some_iff.1 hx).1
    have hi1 : (i : Int) < (t.length : Int) := by omega
    have hi2 : (0 : Int) ≤ (i : Int) := by omega
    have HK := Lib.hid (HR.out.trans hk)
    have HRX := Lib.hid hrx
    clear hx hk hrx H1
    go_wp2_with fail
    go_ret2
    exact ⟨_, true, rfl, hb, by rw [HK.out]; exact HRX.out.2⟩
  · have HK := Lib.hid (HR.out.trans hk)
    clear hk H1
    go_wp2_with fail
    go_ret2
    exact ⟨_, false, rfl, hb, by rw [HK.out]; exact sms_none _⟩

set_option maxHeartbeats 1000000 in
set_option maxRecDepth 10000 in
theorem has_any (v lv : Value) (t : List Rv) (L : List Pr) (s : Sm) (w : World) (h : TbAt w v t) (hL : PsAt w lv L) (hr : Rls (t.map plR)) (hn : t.length ≤ 1000000) :
    Calls Tryz.prog 26 #[v, lv, .agg #[.int .i64 s.1, .int .u64 (s.2 : Nat)]] w (RetBelow w (.bool (hasP (t.map plR) L s))) := by
  obtain ⟨W, hW⟩ : ∃ W, W = w.alloc (.cells #[.int .i64 s.1, .int .u64 (s.2 : Nat)] 42) := ⟨_, rfl⟩
  have hbW : Below w.heap.size w W := by rw [hW]; exact below_alloc1 _ _
  have hX : Blk W w.heap.size 42 #[.int .i64 s.1, .int .u64 (s.2 : Nat)] := by rw [hW]; exact Blk.new _ _ _
  have H1 := Lib.hid (find_any v lv t L W (h.below hbW) (hL.below hbW) hr hn)
  obtain ⟨A, c, rfl, hlc, hcm⟩ := h.shape
  obtain ⟨LA, Lc, rfl, hLc, hLm⟩ := hL.shape
  obtain ⟨Z, hZ⟩ : ∃ Z, Z = hasP (t.map plR) L s := ⟨_, rfl⟩
  rw [← hZ]
  have HZ := Lib.hid hZ
  have HX := Lib.hid hX
  clear hr h hL hZ hX
  go_enter Tryz.func26, Tryz.ntmps26
  go_wp2_with fail
  rw [← hW]
  clear hW
  refine H1.out.mono ?_
  rintro e w' ⟨v1, b, rfl, hb, hs⟩
  obtain ⟨c0, c1⟩ := (HX.out.below hb).c2
  have H2 := Lib.hid (smContains_any v1 _ s w' hs)
  obtain ⟨A1, d1, rfl, _⟩ := hs.shape
  clear hs H1
  have hz2 : decide (s ∈ (rk (t.map plR) L).getD []) = Z := HZ.out.symm
  have h2 := H2.out
  rw [hz2] at h2
  have H3 := Lib.hid h2
  clear h2 hz2 H2
  go_wp2_with fail
  refine H3.out.mono ?_
  rintro e w2 ⟨rfl, hb2⟩
  go_wp2_with fail
  go_ret
  exact ⟨rfl, below_trans hbW (below_trans hb hb2)⟩

theorem within_all {S G : List Row} (h : ∀ r ∈ S, ∀ y ∈ r.2, hasP G r.1 y = true) : withinP S G = true := by
  unfold withinP
  rw [List.all_eq_true]
  rintro x hx
  obtain ⟨r, hr, hs⟩ := List.mem_flatMap.1 hx
  obtain ⟨y, hy, rfl⟩ := List.mem_map.1 hs
  exact h r hr y hy
theorem within_not {S G : List Row} {r : Row} {y : Sm} (hr : r ∈ S) (hy : y ∈ r.2) (h : hasP G r.1 y = false) : withinP S G = false := by
  unfold withinP
  rw [List.all_eq_false]
  exact ⟨(r.1, y), List.mem_flatMap.2 ⟨r, hr, List.mem_map.2 ⟨y, hy, rfl⟩⟩, by rw [h]; exact Bool.false_ne_true⟩

set_option maxHeartbeats 8000000 in
set_option maxRecDepth 10000 in
theorem within_any (v v2 : Value) (s g : List Rv) (w : World) (h : TbAt w v s) (h2 : TbAt w v2 g) (hr : Rls (g.map plR)) (hn : g.length ≤ 1000000) :
    Calls Tryz.prog 8 #[v, v2] w (RetBelow w (.bool (withinP (s.map plR) (g.map plR)))) := by
  obtain ⟨A, c, rfl, hlc, hcm⟩ := h.shape
  obtain ⟨A2, c2, rfl, hlc2, hcm2⟩ := h2.shape
  unfold maxLen at hcm hcm2
  obtain ⟨Z, hZ⟩ : ∃ Z, Z = withinP (s.map plR) (g.map plR) := ⟨_, rfl⟩
  rw [← hZ]
  have hZt : (∀ x ∈ s, ∀ y ∈ x.ss, hasP (g.map plR) x.ls y = true) → Z = true := fun hg => by
    rw [hZ]
    refine within_all fun r hr y hy => ?_
    obtain ⟨x, hx, rfl⟩ := List.mem_map.1 hr
    exact hg x hx y hy
  have hZf : ∀ x ∈ s, ∀ y ∈ x.ss, hasP (g.map plR) x.ls y = false → Z = false := fun x hx y hy hn => by
    rw [hZ]
    exact within_not (r := plR x) (List.mem_map_of_mem hx) hy hn
  have HZT := Lib.hid hZt
  have HZF := Lib.hid hZf
  have HT := Lib.hid h
  have HG := Lib.hid h2
  have HR := Lib.hid hr
  clear h hZ hZt hZf h2 hr
  go_enter Tryz.func8, Tryz.ntmps8
  go_wp2_with fail
  go_loopw [11] (fun i wr => ∃ k : Nat, k ≤ s.length ∧ i = .int .i64 k ∧ Below w.heap.size w wr ∧ Hid (∀ x ∈ s.take k, ∀ y ∈ x.ss, hasP (g.map plR) x.ls y = true)) (fun i _ => s.length - (intOf i).toNat)
  case atStart => exact ⟨0, Nat.zero_le _, rfl, Below.refl _ _, Lib.hid (fun x hx => by simp at hx)⟩
  case round =>
    obtain ⟨k, hk, rfl, hb, hg⟩ := hrel
    by_cases hgo : k < s.length
    · obtain ⟨⟨xL, xS, la, lc, sa, sc⟩, hx⟩ : ∃ x, s[k]? = some x := ⟨_, List.getElem?_eq_getElem hgo⟩
      obtain ⟨b, o, rfl, a0, a1, hrx⟩ := (HT.out.below hb).at_ hx
      dsimp only at a0 a1 hrx
      have hb2 := below_trans hb (below_alloc1 wr (.cells #[.slice la xL.length lc, .slice sa xS.length sc] 50))
      obtain ⟨_, _, _, hs1, hs2⟩ := hrx.2.shape
      have hsl : xS.length ≤ 9223372036854775807 := by unfold maxLen at hs2; dsimp only at hs1; omega
      clear hs1 hs2
      have hB := Blk.new wr #[.slice la xL.length lc, .slice sa xS.length sc] 50
      go_upto_region 4 with fail
      obtain ⟨X, hX⟩ : ∃ X, X = wr.heap.size := ⟨_, rfl⟩
      obtain ⟨wb, hwb⟩ : ∃ wb, wb = wr.alloc (.cells #[.slice la xL.length lc, .slice sa xS.length sc] 50) := ⟨_, rfl⟩
      rw [← hwb] at hb2 hB ⊢
      rw [← hX] at hB ⊢
      have HX := Lib.hid hx
      have HB := Lib.hid hB
      have HXM := Lib.hid (List.mem_of_getElem? hx)
      obtain ⟨c0, c1⟩ := hB.c2
      have hnext : (∀ y ∈ xS, hasP (g.map plR) xL y = true) → ∀ z ∈ s.take (k + 1), ∀ y ∈ z.ss, hasP (g.map plR) z.ls y = true := fun hy z hz => by
        rw [List.take_add_one, hx, List.mem_append] at hz
        rcases hz with hz | hz
        · exact hg.out z hz
        · obtain rfl : z = ⟨xL, xS, la, lc, sa, sc⟩ := by simpa using hz
          exact hy
      have HN := Lib.hid hnext
      clear a0 a1 hrx hX hwb hb hx hB hnext hg
      go_wp2_with fail
      clear c0 c1
      go_loopw [18] (fun i wr2 => ∃ j : Nat, i = .int .i64 j ∧ j ≤ xS.length ∧ Below w.heap.size w wr2 ∧ Hid (Blk wr2 X 50 #[.slice la xL.length lc, .slice sa xS.length sc]) ∧ Hid (∀ y ∈ xS.take j, hasP (g.map plR) xL y = true)) (fun i _ => xS.length - (intOf i).toNat)
      case atStart => exact ⟨0, rfl, Nat.zero_le _, hb2, HB, Lib.hid (fun y hy => by simp at hy)⟩
      case round =>
        obtain ⟨j, rfl, hj, hb4, HB4, hris⟩ := hrel
        clear HB hb2
        obtain ⟨c0, c1⟩ := HB4.out.c2
        by_cases hgo2 : j < xS.length
        · obtain ⟨y, hy⟩ : ∃ y, xS[j]? = some y := ⟨_, List.getElem?_eq_getElem hgo2⟩
          have hrx := ((HT.out.below hb4).at2 HX.out).2.2
          obtain ⟨sb, so, rfl, _, p0, p1⟩ := hrx.2.at_ hy
          have hwa := below_alloc1 wr (.cells #[.int .i64 y.1, .int .u64 (y.2 : Nat)] 42)
          have hb5 := below_trans hb4 hwa
          have H1 := Lib.hid (has_any (.slice A2 g.length c2) _ g xL y _ (HG.out.below hb5) (PsAt.below hrx.1 hwa) HR.out hn)
          have HB5 := Lib.hid (HB4.out.below hwa)
          have hY := Blk.new wr #[.int .i64 y.1, .int .u64 (y.2 : Nat)] 42
          obtain ⟨d0, d1⟩ := hY.c2
          obtain ⟨e0, e1⟩ := HB5.out.c2
          obtain ⟨Q, hQ⟩ : ∃ Q, Q = hasP (g.map plR) xL y := ⟨_, rfl⟩
          rw [← hQ] at H1
          have HQ := Lib.hid hQ
          have HY := Lib.hid hy
          have hj1 : (0 : Int) ≤ (j : Int) := by omega
          have hj2 : (j : Int) < (xS.length : Int) := by omega
          clear hrx hY hQ hy hwa
          go_wp2_with fail
          refine H1.out.mono ?_
          rintro e w6 ⟨rfl, hb6⟩
          have HB6 := Lib.hid (HB5.out.below hb6)
          have hb7 := below_trans hb5 hb6
          clear H1 HB5 hb6 hb5 e0 e1 d0 d1 c0 c1 p0 p1
          rcases Q with _ | _
          · have hz : Z = false := HZF.out _ HXM.out y (List.mem_of_getElem? HY.out) HQ.out.symm
            subst hz
            go_wp2_with fail
            go_ret
            exact ⟨rfl, hb7⟩
          · have hst : ∀ z ∈ xS.take (j + 1), hasP (g.map plR) xL z = true := fun z hz => by
              rw [List.take_add_one, HY.out, List.mem_append] at hz
              rcases hz with hz | hz
              · exact hris.out z hz
              · obtain rfl : z = y := by simpa using hz
                exact HQ.out.symm
            have HS := Lib.hid hst
            clear hst hris
            go_wp2_with fail
            go_roundw
            case rel => exact ⟨j + 1, by go_num, by omega, hb7, HB6, HS⟩
            case measure => simp [intOf]; omega
        · have hx2 := hris.out
          rw [List.take_of_length_le (by omega)] at hx2
          have HG2 := Lib.hid (HN.out hx2)
          have h1 : (xS.length : Int) ≤ (j : Int) := by omega
          clear hx2 hris
          go_wp2_with fail
          go_roundw
          case rel => exact ⟨k + 1, by omega, by go_num, hb4, HG2⟩
          case measure => simp [intOf]; omega
    · obtain rfl : k = s.length := by omega
      have hz : Z = true := HZT.out (by have := hg.out; rwa [List.take_length] at this)
      subst hz
      clear hg
      go_wp2_with fail
      go_ret
      exact ⟨rfl, hb⟩
end Go.Proofs.YtjklcojnbcemoaaGreatDoor
