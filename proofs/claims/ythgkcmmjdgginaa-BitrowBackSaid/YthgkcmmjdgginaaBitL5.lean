/-
  Layer 3: BitrowBack: what is written is taken again.
-/
import Derived.Test.YthgkcmmjdgginaaBitQ
import Derived.Test.YthgkcmmjdgginaaBitP
import Derived.Test.YthgkcmmjdgginaaRows
import Derived.Test.YthgkcmmjdgginaaLib6
import Derived.Deep.DeepCutAuto
import Derived.Deep.CutBlock
namespace Go.Proofs.Ythgkcmmjdgginaa
open Go.RowKit Go.Bar Go.Bar.Bit Go.ChangeShapes Go.WideShapes Go.ChangeAt
open Go.ChangeMaps (open_string shut_string)

theorem law_own : ownKnob Try.prog.godebug = none := by kernel_rfl
theorem law_laid : laidOutB Try.prog = true := by kernel_rfl

theorem allBits_more (ts : List Th) (k : Nat) : ∃ r, allBits ts (k + 1) = allBits ts k ++ r := by
  unfold allBits
  rw [List.take_add_one, List.flatMap_append]
  exact ⟨_, rfl⟩
theorem allBits_split {ts : List Th} {j : Nat} {t : Th} (h : ts[j]? = some t) : ∀ d, ∃ rest, allBits ts (j + 1 + d) = allBits ts j ++ (t.small.bits ++ rest)
  | 0 => ⟨[], by rw [List.append_nil]; exact allBits_next h⟩
  | d + 1 => by
    obtain ⟨rest, hr⟩ := allBits_split h d
    obtain ⟨r, hr2⟩ := allBits_more ts (j + 1 + d)
    exact ⟨rest ++ r, by rw [show j + 1 + (d + 1) = j + 1 + d + 1 by omega, hr2, hr]; simp only [List.append_assoc]⟩
theorem over_some (l : List Bool) (s : List UInt8) (hs : s = pack l) : (unpack s).take (clipTo (l.length : Int) (8 * s.length)) = l := by
  have hl := pack_length l
  rw [show clipTo (l.length : Int) (8 * s.length) = l.length by unfold clipTo; rw [hs]; omega, hs]
  exact unpack_pack_take l

/-- how the world stands in a region that calls the eye once (its operation m) -/
def EyeX (w : World) (b : Nat) (l : List Bool) (p q m : Nat) (C : World → Prop) (D : Nat → Bool) (wx : World) : Prop := (D m = false → EyeNew w wx b l p 0) ∧ (D m = true → EyeNew w wx b l q 0) ∧ C wx
theorem EyeX.pure {w : World} {b : Nat} {l : List Bool} {p q m : Nat} {C : World → Prop} {L : List (Nat × Value)} (hm : (L.lookup m).isSome = true) : ∀ i D wx, L.lookup i = none → EyeX w b l p q m C D wx → EyeX w b l p q m C (Dn.upd D i) wx := by
  intro i D wx hi ⟨h1, h2, h3⟩
  have hne : m ≠ i := by rintro rfl; rw [hi] at hm; cases hm
  exact ⟨fun h => h1 (by rwa [Dn.upd_ne D hne] at h), fun h => h2 (by rwa [Dn.upd_ne D hne] at h), h3⟩
theorem EyeX.load {w : World} {b : Nat} {l : List Bool} {p q m i : Nat} {C : World → Prop} {D : Nat → Bool} {wx : World} (h : EyeX w b l p q m C D wx) (hne : m ≠ i) : EyeX w b l p q m C (Dn.upd D i) wx :=
  ⟨fun g => h.1 (by rwa [Dn.upd_ne D hne] at g), fun g => h.2.1 (by rwa [Dn.upd_ne D hne] at g), h.2.2⟩
theorem EyeX.called {w : World} {b : Nat} {l : List Bool} {p q m : Nat} {C : World → Prop} {D : Nat → Bool} {wx : World} (h : EyeNew w wx b l q 0) (hc : C wx) : EyeX w b l p q m C (Dn.upd D m) wx :=
  ⟨fun g => (by rw [Dn.upd_self] at g; cases g), fun _ => h, hc⟩

set_option maxHeartbeats 16000000 in
set_option maxRecDepth 10000 in
theorem bitrowBack_walk0 (vt : Value) (ts : List Th) (w : World) (ht : ThingsAt w vt ts) :
    Calls Try.prog 7 #[vt] w (RetBelow w (.bool true)) := by
  obtain ⟨A, c, rfl, hlen⟩ := ht.shape
  have h0 := RowNew.start (Below.refl _ w) 25
  go_enter Try.func7, Try.ntmps7
  go_wp2_with fail
  refine (awake_any _).mono ?_
  rintro e w1 ⟨rfl, hb1⟩
  have h0 := h0.then_below hb1
  clear hb1
  go_upto_block 0 with fail
  go_cut [4] (fun i wx => ∃ (k : Nat) (v : Value) (l : List Bool), k ≤ ts.length ∧ k ≤ 20 ∧ (ts.length ≤ k ∨ 20 ≤ k) ∧ i = .int .i64 k ∧ RowNew w wx w.heap.size v l ∧ l = allBits ts k)
  case first =>
    go_wp2_with fail
    go_loopw [4] (fun i wr => ∃ (k : Nat) (v : Value) (l : List Bool), k ≤ ts.length ∧ k ≤ 20 ∧ i = .int .i64 k ∧ RowNew w wr w.heap.size v l ∧ l = allBits ts k) (fun i _ => 20 - (intOf i).toNat)
    case atStart => exact ⟨0, _, [], Nat.zero_le _, by omega, rfl, h0, by simp [allBits]⟩
    case round =>
      obtain ⟨k, v, l, hk, hk20, rfl, hst, hl⟩ := hrel
      have hll : l.length ≤ 100 * k := by rw [hl]; exact allBits_le ts k
      have HL := Lib.hid hl
      clear h0 hl
      by_cases hgo : k < ts.length ∧ k < 20
      · obtain ⟨hk1, hk2⟩ := hgo
        obtain ⟨t, hti⟩ : ∃ t, ts[k]? = some t := ⟨_, List.getElem?_eq_getElem hk1⟩
        have hok := ht.ok t (List.mem_of_getElem? hti)
        obtain ⟨b0, o0, c', he, c0, c1, c2, c3, c4⟩ := (ht.cells k t hti)
        injection he with e1 e2 e3
        subst e1; subst e3
        have hf : Fr (fun _ _ => False) w wr := Fr.of_below hst.below
        have d0 := hf.cell c0 id
        have d1 := hf.cell c1 id
        have d2 := hf.cell c2 id
        have d3 := hf.cell c3 id
        have d4 := hf.cell c4 id
        have HI := Lib.hid hti
        clear c0 c1 c2 c3 c4 hf hti
        go_wp2_with fail
        refine (small_any t _).mono ?_
        rintro e w2 ⟨rfl, hb2⟩
        have hst := hst.then_below hb2
        clear hb2 d0 d1 d2 d3 d4
        go_wp2_with fail
        refine (put_any t.small (Th.small_ok hok) (by simp only [Th.small]; omega) _ v l _ hst.at_ (by omega)).mono ?_
        rintro e w3 ⟨s, v3, rfl, hs, h3⟩
        have h4 := hst.of_ch h3
        have hbl := bits_le t
        clear hs h3
        go_wp2_with fail
        go_roundw
        case rel => exact ⟨k + 1, v3, l ++ t.small.bits, by omega, by omega, by go_num, h4, by rw [allBits_next HI.out, ← HL.out]⟩
        case measure => simp [intOf]; omega
      · have hend : ts.length ≤ k ∨ (k < ts.length ∧ 20 ≤ k) := by omega
        have he2 : ts.length ≤ k ∨ 20 ≤ k := by omega
        clear hgo
        rcases hend with hend | ⟨hend1, hend⟩
        all_goals
          go_wp2_with fail
          go_meet
          exact ⟨k, v, l, hk, hk20, he2, rfl, hst, HL.out⟩
  case rest =>
    obtain ⟨k, v, l, hk, hk20, hend, rfl, hst, hl⟩ := hcut
    obtain ⟨wo, rfl⟩ : ∃ wo : World, wo = wc := ⟨_, rfl⟩
    have hll : l.length ≤ 100 * k := by rw [hl]; exact allBits_le ts k
    have HL := Lib.hid hl
    clear h0 hl
    have hl2 : l.length ≤ 2000 := by omega
    have hpl := pack_length l
    obtain ⟨s, hs⟩ : ∃ s, s = pack l := ⟨_, rfl⟩
    rw [← hs] at hpl
    have hp1 : 8 * s.length ≤ l.length + 7 := by omega
    have hov := over_some l s hs
    have HS := Lib.hid hs
    have HO := Lib.hid hov
    clear hpl hs hov
    go_wp2_with fail
    refine (rowText_any _ 0 _ _ _ hst.at_).mono ?_
    rintro e w' ⟨rfl, rfl⟩
    rw [← HS.out]
    go_wp2_with fail
    refine (rowLen_any _ 0 _ _ _ hst.at_).mono ?_
    rintro e w' ⟨rfl, rfl⟩
    go_wp2_with fail
    refine (over_any s _ _ (by omega) (by omega) (by omega)).mono ?_
    rintro e w1 ⟨rfl, h1, h2⟩
    rw [HO.out] at h1
    have h1 := EyeNew.start hst.below h1 h2
    clear h2
    go_wp2_with fail
    go_loopw [6] (fun i wq => ∃ j : Nat, j ≤ k ∧ i = .int .i64 j ∧ EyeNew w wq wo.heap.size l (allBits ts j).length 0) (fun i _ => 20 - (intOf i).toNat)
    case atStart => exact ⟨0, Nat.zero_le _, rfl, h1⟩
    case round =>
      obtain ⟨j, hj, rfl, hey⟩ := hrel
      clear h1
      by_cases hjk : j < k
      · obtain ⟨t, hti⟩ : ∃ t, ts[j]? = some t := ⟨_, List.getElem?_eq_getElem (by omega)⟩
        have hok := Th.small_ok (ht.ok t (List.mem_of_getElem? hti))
        have hj1 : j < ts.length := by omega
        have hj2 : j < 20 := by omega
        obtain ⟨b0, o0, c', he, c0, c1, c2, c3, c4⟩ := (ht.cells j t hti)
        injection he with e1 e2 e3
        subst e1; subst e3
        have hf : Fr (fun _ _ => False) w wr := Fr.of_below hey.below
        have d0 := hf.cell c0 id
        have d1 := hf.cell c1 id
        have d2 := hf.cell c2 id
        have d3 := hf.cell c3 id
        have d4 := hf.cell c4 id
        have hm30 : t.small.m ≤ 100000 := by simp only [Th.small]; omega
        have hnx := allBits_next hti
        obtain ⟨rest, hr⟩ := allBits_split hti (k - (j + 1))
        rw [show j + 1 + (k - (j + 1)) = k by omega, ← HL.out] at hr
        have hdr : l.drop (allBits ts j).length = t.small.bits ++ rest := by rw [hr, List.drop_left]
        have hpl : (allBits ts j).length + t.small.bits.length = (allBits ts (j + 1)).length := by rw [hnx, List.length_append]
        clear c0 c1 c2 c3 c4 hf hti hnx hr
        obtain ⟨p, hp⟩ : ∃ p, p = (allBits ts j).length := ⟨_, rfl⟩
        rw [← hp] at hpl hdr hey
        obtain ⟨q, hq⟩ : ∃ q, q = (allBits ts (j + 1)).length := ⟨_, rfl⟩
        rw [← hq] at hpl
        have HQ := Lib.hid hq
        clear hp hq
        go_wp2_with fail
        refine (small_any t _).mono ?_
        rintro e w2 ⟨rfl, hb2⟩
        have hey := hey.then_below hb2
        clear hb2 d0 d1 d2 d3 d4
        obtain ⟨⟨kd, n, m, u, is⟩, hth⟩ : ∃ t', t' = t.small := ⟨_, rfl⟩
        rw [← hth] at hdr hpl hok hm30 ⊢
        obtain ⟨hk', hn', hm', hu⟩ := hok
        simp only [] at hk' hn' hm' hu hm30
        simp only [Th.val]
        clear hth
        by_cases k1 : kd = 1
        · subst k1
          have hbt := eyeBit_of (L := l) (p := p) (x := is) (rest := rest) hdr
          have HB := Lib.hid hbt
          have hpq : p + 1 = q := hpl
          have HP := Lib.hid hpq
          clear hbt hpq hpl hdr

          go_wp2_with fail
          obtain ⟨X, hX⟩ : ∃ X, X = w2.heap.size := ⟨_, rfl⟩
          have hXne : X ≠ wo.heap.size := by
            have := World.block_lt_of_cell? _ _ hey.at_.c1
            simp only at this
            omega
          have hb0 := Below.alloc (Below.refl _ w2) (Nat.le_refl _) (.cells #[.int .i64 1, .int .i64 n, .int .i64 m, .int .u64 u, .bool is] 32)
          have f0 : (w2.alloc (.cells #[.int .i64 1, .int .i64 n, .int .i64 m, .int .u64 u, .bool is] 32)).cell? ⟨w2.heap.size, 0, none⟩ = some (.int .i64 1) := by rw [World.cell?_alloc_new]; rfl
          have f4 : (w2.alloc (.cells #[.int .i64 1, .int .i64 n, .int .i64 m, .int .u64 u, .bool is] 32)).cell? ⟨w2.heap.size, 4, none⟩ = some (.bool is) := by rw [World.cell?_alloc_new]; rfl
          have hey2 := hey.then_below hb0
          clear hb0
          rw [← hX] at f0 f4
          simp only [← hX]
          generalize w2.alloc (.cells #[.int .i64 1, .int .i64 n, .int .i64 m, .int .u64 u, .bool is] 32) = wt at *
          clear hX hey hst
          have hey3 := hey2.then_below (Below.refl _ _).drew
          have f4d : wt.drew.cell? ⟨X, 4, none⟩ = some (.bool is) := f4
          have f0d : wt.drew.cell? ⟨X, 0, none⟩ = some (.int .i64 1) := f0
          clear hey2 f0 f4
          have hll1 : l.length < 100000000000 := by omega
          have hC : ∀ wx, EyeNew w wx wo.heap.size l p 0 → (fun wx : World => wx.cell? ⟨X, 0, none⟩ = some (.int .i64 1) ∧ wx.cell? ⟨X, 4, none⟩ = some (.bool is)) wx → Calls Try.prog 23 #[.pointer (some ⟨wo.heap.size, 0, none⟩)] wx fun e w' => e = .returned (.bool is) ∧ EyeNew w w' wo.heap.size l q 0 ∧ (fun wx : World => wx.cell? ⟨X, 0, none⟩ = some (.int .i64 1) ∧ wx.cell? ⟨X, 4, none⟩ = some (.bool is)) w' := by
            intro wx hx ⟨hc1, hc2⟩
            refine (eyeBit_any wo.heap.size 0 l p 0 _ hx.at_ hll1).mono ?_
            rintro e w3 g3
            obtain ⟨rfl, h3⟩ := hx.step g3
            have g1 := g3.2.2.cell hc1 (fun e => hXne e.1)
            have g2 := g3.2.2.cell hc2 (fun e => hXne e.1)
            rw [HB.out] at h3 ⊢
            simp only [] at h3
            exact ⟨rfl, by rw [← HP.out]; exact h3, g1, g2⟩
          have HC := Lib.hid hC
          clear hC
          refine Dn.wp_region_states [(1, .bool is), (3, .bool is)] (EyeX w wo.heap.size l p q 1 (fun wx : World => wx.cell? ⟨X, 0, none⟩ = some (.int .i64 1) ∧ wx.cell? ⟨X, 4, none⟩ = some (.bool is))) (by kernel_rfl) 93 (by kernel_rfl) rfl (EyeX.pure rfl) ⟨fun _ => hey3, fun h => (by cases h), ⟨f0d, f4d⟩⟩ ?_
          repeat
            first
            | (refine Dn.Chain.step (v := ?_) (a' := ?_) rfl rfl rfl ?_ ?_ ?_
               rotate_left 2
               focus (intro w; go_simp; try with_reducible rfl)
               focus (simp only [Act.put, List.setIfInBounds_toArray, List.set_cons_succ, List.set_cons_zero]; try rfl))
            | (refine Dn.Chain.call (a' := ?_) _ rfl rfl rfl (fun D wx hx hD _ => ?_) ?_ ?_
               rotate_left 1
               focus
                 first
                 | (obtain ⟨g1, g2⟩ := hx.2.2; go_simp; exact EyeX.load hx (by decide))
                 | (have hA := HC.out wx (hx.1 hD) hx.2.2; go_simp; (with_reducible refine hA.mono ?_); exact (fun e w' ⟨h1, h2, h3⟩ => by subst h1; exact ⟨rfl, EyeX.called h2 h3⟩))
               focus (simp only [Act.put, List.setIfInBounds_toArray, List.set_cons_succ, List.set_cons_zero]; try rfl))
          refine Dn.Chain.end_ (fun D w3 hD hX => ?_)
          have h3 := hX.2.1 (hD 1 (by decide))
          have HX3 := Lib.hid h3
          clear hX hD h3
          go_wp2_with fail
          go_roundw
          case rel => exact ⟨j + 1, by omega, by go_num, by rw [← HQ.out]; exact HX3.out⟩
          case measure => simp [intOf]; omega
        · by_cases k2 : kd = 2
          · subst k2
            have hbt := eyeBits_of (L := l) (p := p) (v := u) (n := n) (rest := rest) hdr
            have hpq : p + clip n = q := by rw [← hpl]; simp [Th.bits, bitsOf_length]
            have HP := Lib.hid hpq
            obtain ⟨z1, hz1⟩ : ∃ z1 : Nat, z1 = (max n 0).toNat := ⟨_, rfl⟩
            obtain ⟨z, hz⟩ : ∃ z : Nat, z = clip n := ⟨_, rfl⟩
            have e1 : (if n < 0 then (0 : Int) else n) = (z1 : Int) := by split <;> omega
            have e2 : (if (64 : Int) < (z1 : Int) then (64 : Int) else (z1 : Int)) = (z : Int) := by rw [hz]; unfold clip; split <;> omega
            have hz64 : z ≤ 64 := by rw [hz]; exact clip_le _
            have hmk := mask_all u z hz64 hu
            rw [← hz] at hbt
            have HB := Lib.hid hbt
            have HP2 := Lib.hid hz
            have hpz : p + z = q := by rw [hz]; exact hpq
            have HP := Lib.hid hpz
            clear hbt hpq hpl hdr hz1 hz hpz

            go_wp2_with fail
            obtain ⟨X, hX⟩ : ∃ X, X = w2.heap.size := ⟨_, rfl⟩
            have hXne : X ≠ wo.heap.size := by
              have := World.block_lt_of_cell? _ _ hey.at_.c1
              simp only at this
              omega
            have hb0 := Below.alloc (Below.refl _ w2) (Nat.le_refl _) (.cells #[.int .i64 2, .int .i64 n, .int .i64 m, .int .u64 u, .bool is] 32)
            have f1 : (w2.alloc (.cells #[.int .i64 2, .int .i64 n, .int .i64 m, .int .u64 u, .bool is] 32)).cell? ⟨w2.heap.size, 1, none⟩ = some (.int .i64 n) := by rw [World.cell?_alloc_new]; rfl
            have f3 : (w2.alloc (.cells #[.int .i64 2, .int .i64 n, .int .i64 m, .int .u64 u, .bool is] 32)).cell? ⟨w2.heap.size, 3, none⟩ = some (.int .u64 u) := by rw [World.cell?_alloc_new]; rfl
            have hey2 := hey.then_below hb0
            clear hb0
            rw [← hX] at f1 f3
            simp only [← hX]
            generalize w2.alloc (.cells #[.int .i64 2, .int .i64 n, .int .i64 m, .int .u64 u, .bool is] 32) = wt at *
            clear hX hey hst
            have hey3 := hey2.then_below (Below.refl _ _).drew
            have f1d : wt.drew.cell? ⟨X, 1, none⟩ = some (.int .i64 n) := f1
            have f3d : wt.drew.cell? ⟨X, 3, none⟩ = some (.int .u64 u) := f3
            clear hey2 f1 f3
            have hll1 : l.length < 100000000000 := by omega
            have hn1 := hn'.1
            have hn2 := hn'.2
            have hC : ∀ wx, EyeNew w wx wo.heap.size l p 0 → (fun wx : World => wx.cell? ⟨X, 1, none⟩ = some (.int .i64 n) ∧ wx.cell? ⟨X, 3, none⟩ = some (.int .u64 u)) wx → Calls Try.prog 24 #[.pointer (some ⟨wo.heap.size, 0, none⟩), .int .i64 n] wx fun e w' => e = .returned (.int .u64 ((u % 2 ^ z : Nat) : Int)) ∧ EyeNew w w' wo.heap.size l q 0 ∧ (fun wx : World => wx.cell? ⟨X, 1, none⟩ = some (.int .i64 n) ∧ wx.cell? ⟨X, 3, none⟩ = some (.int .u64 u)) w' := by
              intro wx hx ⟨hc1, hc2⟩
              refine (eyeBits_any wo.heap.size 0 l p 0 n _ hx.at_ hll1 hn1 hn2).mono ?_
              rintro e w3 g3
              obtain ⟨rfl, h3⟩ := hx.step g3
              have g1 := g3.2.2.cell hc1 (fun e => hXne e.1)
              have g2 := g3.2.2.cell hc2 (fun e => hXne e.1)
              rw [HB.out] at h3 ⊢
              simp only [] at h3
              exact ⟨rfl, by rw [← HP.out]; exact h3, g1, g2⟩
            have HC := Lib.hid hC
            clear hC
            refine Dn.wp_region_states [(2, .int .i64 n), (3, .int .u64 ((u % 2 ^ z : Nat) : Int)), (5, .int .u64 u)] (EyeX w wo.heap.size l p q 3 (fun wx : World => wx.cell? ⟨X, 1, none⟩ = some (.int .i64 n) ∧ wx.cell? ⟨X, 3, none⟩ = some (.int .u64 u))) (by kernel_rfl) 93 (by kernel_rfl) rfl (EyeX.pure rfl) ⟨fun _ => hey3, fun h => (by cases h), ⟨f1d, f3d⟩⟩ ?_
            repeat
              first
              | (refine Dn.Chain.step (v := ?_) (a' := ?_) rfl rfl rfl ?_ ?_ ?_
                 rotate_left 2
                 focus (intro w; go_simp; try with_reducible rfl)
                 focus (simp only [Act.put, List.setIfInBounds_toArray, List.set_cons_succ, List.set_cons_zero]; try rfl))
              | (refine Dn.Chain.call (a' := ?_) _ rfl rfl rfl (fun D wx hx hD _ => ?_) ?_ ?_
                 rotate_left 1
                 focus
                   first
                   | (obtain ⟨g1, g2⟩ := hx.2.2; go_simp; exact EyeX.load hx (by decide))
                   | (have hA := HC.out wx (hx.1 hD) hx.2.2; go_simp; (with_reducible refine hA.mono ?_); exact (fun e w' ⟨h1, h2, h3⟩ => by subst h1; exact ⟨rfl, EyeX.called h2 h3⟩))
                 focus (simp only [Act.put, List.setIfInBounds_toArray, List.set_cons_succ, List.set_cons_zero]; try rfl))
            refine Dn.Chain.end_ (fun D w3 hD hX => ?_)
            have h3 := hX.2.1 (hD 3 (by decide))
            have HX3 := Lib.hid h3
            clear hX hD h3
            go_wp2_with fail
            go_roundw
            case rel => exact ⟨j + 1, by omega, by go_num, by rw [← HQ.out]; exact HX3.out⟩
            case measure => simp [intOf]; omega
          · by_cases k3 : kd = 3
            · subst k3
              have hbt := eyeUnary_of (L := l) (p := p) (n := n) (m := m) (rest := rest) hdr
              obtain ⟨x, hx⟩ : ∃ x, x = ones n m := ⟨_, rfl⟩
              have hx2 : (x : Int) = min (max n 0) (max m 0) := by rw [hx]; unfold ones; omega
              rw [← hx] at hbt
              have HB := Lib.hid hbt
              have hpq : p + (unary n m).length = q := hpl
              have HP := Lib.hid hpq
              obtain ⟨z1, hz1⟩ : ∃ z1 : Nat, z1 = (max n 0).toNat := ⟨_, rfl⟩
              obtain ⟨y1, hy1⟩ : ∃ y1 : Nat, y1 = (max m 0).toNat := ⟨_, rfl⟩
              have e1 : (if n < 0 then (0 : Int) else n) = (z1 : Int) := by split <;> omega
              have e2 : (if m < 0 then (0 : Int) else m) = (y1 : Int) := by split <;> omega
              have e3 : (if (y1 : Int) < (z1 : Int) then (y1 : Int) else (z1 : Int)) = (x : Int) := by split <;> omega
              have e4 : (if y1 < z1 then (y1 : Int) else (z1 : Int)) = (x : Int) := by split <;> omega
              clear hbt hpq hpl hdr hx hx2 hz1 hy1

              go_wp2_with fail
              obtain ⟨X, hX⟩ : ∃ X, X = w2.heap.size := ⟨_, rfl⟩
              have hXne : X ≠ wo.heap.size := by
                have := World.block_lt_of_cell? _ _ hey.at_.c1
                simp only at this
                omega
              have hb0 := Below.alloc (Below.refl _ w2) (Nat.le_refl _) (.cells #[.int .i64 3, .int .i64 n, .int .i64 m, .int .u64 u, .bool is] 32)
              have f1 : (w2.alloc (.cells #[.int .i64 3, .int .i64 n, .int .i64 m, .int .u64 u, .bool is] 32)).cell? ⟨w2.heap.size, 1, none⟩ = some (.int .i64 n) := by rw [World.cell?_alloc_new]; rfl
              have f2 : (w2.alloc (.cells #[.int .i64 3, .int .i64 n, .int .i64 m, .int .u64 u, .bool is] 32)).cell? ⟨w2.heap.size, 2, none⟩ = some (.int .i64 m) := by rw [World.cell?_alloc_new]; rfl
              have hey2 := hey.then_below hb0
              clear hb0
              rw [← hX] at f1 f2
              simp only [← hX]
              generalize w2.alloc (.cells #[.int .i64 3, .int .i64 n, .int .i64 m, .int .u64 u, .bool is] 32) = wt at *
              clear hX hey hst
              have hey3 := hey2.then_below (Below.refl _ _).drew
              have f1d : wt.drew.cell? ⟨X, 1, none⟩ = some (.int .i64 n) := f1
              have f2d : wt.drew.cell? ⟨X, 2, none⟩ = some (.int .i64 m) := f2
              clear hey2 f1 f2
              have hll1 : l.length < 100000000000 := by omega
              have hm2 := hm'.2
              have hC : ∀ wx, EyeNew w wx wo.heap.size l p 0 → (fun wx : World => wx.cell? ⟨X, 1, none⟩ = some (.int .i64 n) ∧ wx.cell? ⟨X, 2, none⟩ = some (.int .i64 m)) wx → Calls Try.prog 25 #[.pointer (some ⟨wo.heap.size, 0, none⟩), .int .i64 m] wx fun e w' => e = .returned (.int .i64 (x : Nat)) ∧ EyeNew w w' wo.heap.size l q 0 ∧ (fun wx : World => wx.cell? ⟨X, 1, none⟩ = some (.int .i64 n) ∧ wx.cell? ⟨X, 2, none⟩ = some (.int .i64 m)) w' := by
                intro wx hx ⟨hc1, hc2⟩
                refine (eyeUnary_any wo.heap.size 0 l p 0 m _ hx.at_ hll1 hm2).mono ?_
                rintro e w3 g3
                obtain ⟨rfl, h3⟩ := hx.step g3
                have g1 := g3.2.2.cell hc1 (fun e => hXne e.1)
                have g2 := g3.2.2.cell hc2 (fun e => hXne e.1)
                rw [HB.out] at h3 ⊢
                simp only [] at h3
                exact ⟨rfl, by rw [← HP.out]; exact h3, g1, g2⟩
              have HC := Lib.hid hC
              clear hC
              refine Dn.wp_region_states [(2, .int .i64 m), (3, .int .i64 (x : Nat)), (5, .int .i64 n), (8, .int .i64 m)] (EyeX w wo.heap.size l p q 3 (fun wx : World => wx.cell? ⟨X, 1, none⟩ = some (.int .i64 n) ∧ wx.cell? ⟨X, 2, none⟩ = some (.int .i64 m))) (by kernel_rfl) 93 (by kernel_rfl) rfl (EyeX.pure rfl) ⟨fun _ => hey3, fun h => (by cases h), ⟨f1d, f2d⟩⟩ ?_
              repeat
                first
                | (refine Dn.Chain.step (v := ?_) (a' := ?_) rfl rfl rfl ?_ ?_ ?_
                   rotate_left 2
                   focus (intro w; go_simp; try with_reducible rfl)
                   focus (simp only [Act.put, List.setIfInBounds_toArray, List.set_cons_succ, List.set_cons_zero]; try rfl))
                | (refine Dn.Chain.call (a' := ?_) _ rfl rfl rfl (fun D wx hx hD _ => ?_) ?_ ?_
                   rotate_left 1
                   focus
                     first
                     | (obtain ⟨g1, g2⟩ := hx.2.2; go_simp; exact EyeX.load hx (by decide))
                     | (have hA := HC.out wx (hx.1 hD) hx.2.2; go_simp; (with_reducible refine hA.mono ?_); exact (fun e w' ⟨h1, h2, h3⟩ => by subst h1; exact ⟨rfl, EyeX.called h2 h3⟩))
                   focus (simp only [Act.put, List.setIfInBounds_toArray, List.set_cons_succ, List.set_cons_zero]; try rfl))
              refine Dn.Chain.end_ (fun D w3 hD hX => ?_)
              have h3 := hX.2.1 (hD 3 (by decide))
              have HX3 := Lib.hid h3
              clear hX hD h3
              go_wp2_with fail
              go_roundw
              case rel => exact ⟨j + 1, by omega, by go_num, by rw [← HQ.out]; exact HX3.out⟩
              case measure => simp [intOf]; omega
            · have b1 : (kd == 1) = false := by simpa using k1
              have b2 : (kd == 2) = false := by simpa using k2
              have b3 : (kd == 3) = false := by simpa using k3
              have hpq : p = q := by rw [← hpl]; simp [Th.bits, k1, k2, k3]
              have HP := Lib.hid hpq
              have hey2 := hey.then_below (Below.alloc (Below.refl _ w2) (Nat.le_refl _) (.cells #[.int .i64 kd, .int .i64 n, .int .i64 m, .int .u64 u, .bool is] 32))
              clear hpq hpl hdr k1 k2 k3
              go_wp2_with fail
              go_roundw
              case rel => exact ⟨j + 1, by omega, by go_num, by rw [← HQ.out, ← HP.out]; exact hey2⟩
              case measure => simp [intOf]; omega
      · obtain rfl : j = k := by omega
        rw [← HL.out] at hey
        have hcs : ts.length ≤ j ∨ j < ts.length ∧ 20 ≤ j := by omega
        clear hend hjk
        rcases hcs with g1 | ⟨g1, g2⟩
        all_goals
          go_wp2_with fail
          refine (eyeErr_any _ 0 _ _ 0 _ hey.at_).mono ?_
          rintro e w' ⟨rfl, rfl⟩
          go_wp2_with fail
          refine (eyeLeft_any _ 0 _ _ 0 _ hey.at_ (by omega)).mono ?_
          rintro e w3 ⟨rfl, n3, rfl⟩
          have hey := hey.then_below (below_draws _ n3)
          go_wp2_with fail
          go_ret
          exact ⟨rfl, hey.below⟩

set_option maxRecDepth 100000 in
theorem bitrowBack_lifted (os : Os) (started : os.Started) (H : Type) (enc : TypeId × Value → H) :
    ReturnsInHanded {} Try.checked os 7 .any (Rows.bitrowBackSpec.pre6 enc Try.prog Try.f7 Rows.bitrowBackRow.domain false) (Rows.bitrowBackSpec.post enc Try.prog Try.f7 false true false false) := by
  refine returnsInHanded_of_change_sized (C := Try.checked) law_own started (by kernel_rfl) Try.func7
    (ChangeSpec.witness6 (enc := enc) (C := Try.checked) false ⟨#[], #[.slice none 0 0], []⟩ 8 (by kernel_rfl) (by kernel_rfl) (by kernel_rfl) (by kernel_rfl)) ?_
  intro W base args ds gs before hval0 hW _ hsz0 _
  have hval : ∀ (j : Nat) t v, Try.f7.params[j]? = some t → args[j]? = some v → Value.okWide Try.prog W .any base t v := hval0
  have hsz : (DataW.weightsEach Try.prog (Try.f7.params.toList ++ Rows.bitrowBackSpec.plain.varTypes Try.prog) (ds ++ gs)).all (· ≤ reachBytes) = true := hsz0
  have hW' := hW
  obtain ⟨p, q, hA0, hV, rfl, _, _⟩ := hW
  have hA : DataW.TrodAll enc Try.prog W 0 (fun _ => true) true Try.f7.params.toList args.toList ds p := hA0
  rw [Try.params7] at hA hval hsz
  obtain ⟨v0, vs0, d0, ds0, p0, q0, hargs, rfl, rfl, h0, r0⟩ := trodAll_cons hA
  obtain ⟨rfl, rfl, rfl⟩ := trodAll_nil r0
  obtain rfl : args = #[v0] := by cases args; simp_all
  obtain ⟨rfl, rfl⟩ := trodVars_none hV
  obtain ⟨ts0, hts0⟩ := open_things (hval 0 22 v0 rfl rfl) h0
  refine (bitrowBack_walk0 v0 ts0 W hts0).mono fun e W' ⟨he, hb⟩ => ?_
  subst he
  exact ⟨_, rfl, law_post law_laid (by intro t ht; rw [Try.params7] at ht; simp only [List.mem_cons, List.not_mem_nil, or_false] at ht; rcases ht with rfl <;> exact ⟨by kernel_rfl, of_decide_eq_true (by kernel_rfl)⟩) rfl Try.underlying4 rfl rfl hW' hb⟩

theorem bitrowBack_holds : Rows.BitrowBackSaid :=
  OpenClaim.holds_of_wide 7 Try.f7 rfl rfl rfl rfl rfl rfl rfl ⟨rfl, rfl, rfl, rfl, rfl⟩ rfl rfl rfl rfl rfl (by kernel_rfl) Try.func7 (by kernel_rfl)
    (of_decide_eq_true (by kernel_rfl)) (by unfold Func.isWrapper; first | (rw [if_pos (by decide +kernel)]; kernel_rfl) | (rw [if_neg (by decide +kernel)]; exact ⟨rfl, rfl⟩))
    (fun os started H enc _ => bitrowBack_lifted os started H enc)

end Go.Proofs.Ythgkcmmjdgginaa
