/-
  Layer 20: PlanSound holds: for every list of blocks and every width, a plan's blocks are live, not marked, more than one, and lie within its times. No condition.
-/
import Derived.Test.YtemmgejaoegpfaaPlnL
import Derived.Test.YtemmgejaoegpfaaPlnO
import Derived.Test.YtemmgejaoegpfaaLib22
import Derived.Test.YtemmgejaoegpfaaRows
namespace Go.Proofs.Ytemmgejaoegpfaa
open Go.RowKit Go.Bar Go.Bar.Leb Go.Bar.Frm Go.Bar.Idt Go.Bar.Met Go.Bar.Pln

theorem mkL_wide {wd : Int} (h1 : 1 ≤ wd) (L : List On) : ∀ m ∈ mkL wd L, m.mn < m.mx ∧ 1 ≤ m.lv := by
  intro m hm
  unfold mkL at hm
  obtain ⟨p, hp, rfl⟩ := List.mem_map.1 hm
  show p.1.fr % 16 * wd < p.1.fr % 16 * wd + (1 + p.1.wi % 4) * wd ∧ 1 ≤ 1 + p.1.wi % 4
  have h2 : 0 ≤ p.1.wi % 4 := Int.emod_nonneg _ (by omega)
  have h3 : 0 < (1 + p.1.wi % 4) * wd := Int.mul_pos (by omega) (by omega)
  exact ⟨by omega, by omega⟩
theorem srtS_lt {I : List (List UInt8)} (h : I.Pairwise (· ≠ ·)) : (srtS I).Pairwise (· < ·) := by
  have h1 : (srtS I).Pairwise (fun x y => decide (x ≤ y) = true) := List.pairwise_mergeSort (fun a b c h1 h2 => by
      rw [decide_eq_true_eq] at *
      exact List.le_trans h1 h2) (fun a b => by
      rw [Bool.or_eq_true, decide_eq_true_eq, decide_eq_true_eq]
      exact List.le_total a b) I
  have h2 : (srtS I).Pairwise (· ≠ ·) := ((srtS_perm I).pairwise_iff (fun h e => h e.symm)).2 h
  rw [List.pairwise_iff_getElem] at h1 h2 ⊢
  intro i j hi hj hij
  have a1 := h1 i j hi hj hij
  have a2 := h2 i j hi hj hij
  rw [decide_eq_true_eq] at a1
  by_cases hlt : (srtS I)[i] < (srtS I)[j]
  · exact hlt
  · exact absurd (Lab.b_tri hlt (fun h => absurd a1 (List.not_le.2 h))) a2
theorem bytes_nonneg {l : List Mt} (h : ∀ m ∈ l, 0 ≤ size m) : 0 ≤ Pln.bytes l := by
  induction l with
  | nil => exact Int.le_refl 0
  | cons m r ih =>
    have h1 := h m (by simp)
    have h2 := ih (fun x hx => h x (by simp [hx]))
    show 0 ≤ size m + Pln.bytes r
    omega
theorem bytes_take {l : List Mt} {q : Nat} {m : Mt} (h : l[q]? = some m) : Pln.bytes (l.take (q + 1)) = Pln.bytes (l.take q) + size m := by
  rw [List.take_add_one, h, Option.toList_some, bytes_append]
  show _ + (size m + 0) = _
  omega
theorem bytes_take_le {l : List Mt} (h : ∀ m ∈ l, 0 ≤ size m) (q : Nat) : 0 ≤ Pln.bytes (l.take q) ∧ Pln.bytes (l.take q) ≤ Pln.bytes l := by
  have h1 := bytes_append (l.take q) (l.drop q)
  rw [List.take_append_drop] at h1
  have h2 := bytes_nonneg (l := l.drop q) (fun m hm => h m (List.mem_of_mem_drop hm))
  have h3 := bytes_nonneg (l := l.take q) (fun m hm => h m (List.mem_of_mem_take hm))
  omega

set_option maxHeartbeats 8000000 in
set_option maxRecDepth 10000 in
theorem planSound_walk0 (v : Value) (l : List On) (z : Int) (hz : (Lit.int .i64 z).wf = true) (w : World) (h : OnsAt w v l) :
    Calls Try.prog 5 #[v, .int .i64 z] w (RetBelow w (.bool true)) := by
  have hwd := wdOf_rng z
  have ht := tmod_small z
  have e1 : IntKind.i64.wrap (z.tmod 1000 + 1000) = z.tmod 1000 + 1000 := by rw [IntKind.wrap_i64]; omega
  have e2 : IntKind.i64.wrap (1 + (z.tmod 1000 + 1000).tmod 1000) = wdOf z := by
    have : 1 + (z.tmod 1000 + 1000).tmod 1000 = wdOf z := rfl
    rw [this, IntKind.wrap_i64]; omega
  have e3 : IntKind.i64.wrap (1 + (z.tmod 1000 + 1000) % 1000) = wdOf z := by
    rw [← Int.tmod_eq_emod_of_nonneg (by omega)]; exact e2
  have e4 : 1 + z.tmod 1000 % 1000 = wdOf z := by
    unfold wdOf
    rw [Int.tmod_eq_emod_of_nonneg (a := z.tmod 1000 + 1000) (by omega)]
    omega
  have hl := fun w' (hb : Below w.heap.size w w') => listing_any v l (wdOf z) w' (h.below hb) hwd.1 hwd.2
  have HL := Lib.hid hl
  have hlst := mkL_lst hwd.1 hwd.2 (l.take 12) (by rw [List.length_take]; omega)
  have h20 : (freeU (mkL (wdOf z) (l.take 12)) (mkF (l.take 12))).length < 20 := Nat.lt_of_le_of_lt (freeU_len _ _) (by rw [mkL_len, List.length_take]; omega)
  have hwide := mkL_wide hwd.1 (l.take 12)
  obtain ⟨L, hL⟩ : ∃ L, L = mkL (wdOf z) (l.take 12) := ⟨_, rfl⟩
  obtain ⟨mf, hmf⟩ : ∃ mf, mf = mkF (l.take 12) := ⟨_, rfl⟩
  rw [← hL] at HL hlst h20 hwide
  rw [← hmf] at HL h20
  obtain ⟨wd, hwd'⟩ : ∃ wd, wd = wdOf z := ⟨_, rfl⟩
  rw [← hwd'] at HL hwd e2 e3 e4
  have hsnd := fun p => sound (mk := mf) (p := p) hlst hwide hwd.1
  have hnx := fun (mv : Value) (mb n : Nat) (w' : World) (h1 : MsAt w' w' mv L) (h2 : Mp w' mb n mf) => next_any 5 wd mv L mb n mf w' w' (Below.refl _ _) h1 h2 hlst h20 (by omega)
  have hsh := fun (mv : Value) (mb : Nat) (w' : World) (h1 : MsAt w' w' mv L) => shadowed_any 5 mv L mb w' h1 hlst
  obtain ⟨on, hon⟩ : ∃ on, on = next L mf wd := ⟨_, rfl⟩
  rw [← hon] at hnx hsnd
  obtain ⟨G, hG⟩ : ∃ G, G = cntF (srcs L) := ⟨_, rfl⟩
  have hGM : ∀ id, gone L id = 0 → (G id).getD 0 = 0 := fun id h0 => by rw [hG, cntF_getD]; show ((gone L id : Nat) : Int) = 0; rw [h0]; rfl
  rw [← hG] at hsh
  have HNX := Lib.hid hnx
  have HSH := Lib.hid hsh
  have HGM := Lib.hid hGM
  have HSND := Lib.hid hsnd
  have HLST := Lib.hid hlst
  clear hl hL hmf hwd' h20 hwide hnx hsh hon hG hGM hsnd hlst
  obtain ⟨A, c, rfl, _, _⟩ := h.shape
  go_enter Try.func5, Try.ntmps5
  go_wp2_with fail
  refine (HL.out _ (Below.refl _ _)).mono ?_
  rintro e w1 ⟨lv, tv, rfl, hli, hbl, hb1⟩
  obtain ⟨mv, mb, rfl, hms, hmp⟩ := hli
  obtain ⟨mA, mc, rfl, _⟩ := hms.shape
  obtain ⟨ts, ht1, ht2, _⟩ := hbl
  obtain ⟨tA, tc, rfl, _⟩ := ht2.shape
  clear ht1 ht2 e1 e2 e3 e4 HL
  have b2 := below_trans (below_al w1 (.cells #[.int .i64 5, .slice mA L.length mc, .map (some mb)] 26)) (below_al _ (.cells #[.int .i64 5, .slice tA ts.length tc] 29))
  have L2 := (Blk.new w1 #[.int .i64 5, .slice mA L.length mc, .map (some mb)] 26).below (below_al _ (.cells #[.int .i64 5, .slice tA ts.length tc] 29))
  have B2 := below_trans hb1 b2
  have ms2 := (hms.below b2).base b2
  have mp2 := hmp.below b2
  clear hb1 b2 hms hmp
  go_upto_region 3 with fail
  obtain ⟨w2, hw2⟩ : ∃ w2, w2 = (w1.alloc (.cells #[.int .i64 5, .slice mA L.length mc, .map (some mb)] 26)).alloc (.cells #[.int .i64 5, .slice tA ts.length tc] 29) := ⟨_, rfl⟩
  rw [← hw2] at L2 B2 ms2 mp2 ⊢
  clear hw2
  obtain ⟨g0, g1, g2⟩ := L2.c3
  rcases on with _ | P
  · go_wp2_with fail
    refine (HNX.out _ _ 12 w2 ms2 mp2).mono ?_
    rintro e w3 ⟨pv, rfl, hpv⟩
    have b3 := below_trans B2 hpv.below_
    obtain ⟨pA, pc, rfl, _⟩ := hpv.shape
    unfold plV
    dsimp only [Option.getD_none, Option.isSome_none]
    have b4 := below_trans b3 (below_al w3 (.cells #[.int .i64 0, .int .i64 0, .int .i64 0, .slice pA 0 pc] 33))
    clear hpv b3 B2 g0 g1 g2
    unfold pl0
    dsimp only
    rw [List.length_nil]
    go_wp2_with fail
    refine (awake_any _).mono ?_
    rintro e w5 ⟨rfl, hb5⟩
    go_wp2_with fail
    refine (awake_any _).mono ?_
    rintro e w6 ⟨rfl, hb6⟩
    have HB := Lib.hid (below_trans (below_trans b4 hb5) hb6)
    clear b4 hb5 hb6
    go_wp2_with fail
    go_ret
    exact ⟨rfl, HB.out⟩
  · have hS := HSND.out P rfl
    have hmem := hS.mem
    have hsm : ∀ m ∈ P.ms, Sm m := fun m hm => HLST.out.sm m (hmem m hm).1
    have hnonneg : ∀ m ∈ P.ms, 0 ≤ size m := fun m hm => (size_rng (hsm m hm)).1
    have htk := bytes_take_le hnonneg
    have hmost := hS.most
    have htwo := hS.two
    have hlen := hS.len
    have hrng := hS.rng
    have hlv := hS.lv
    have hfr := hS.fr
    have hap : (P.ms.map (·.id)).Pairwise (· ≠ ·) := by rw [List.pairwise_map]; exact hS.ap
    have hrise := srtS_lt hap
    have hNL : (srtS (P.ms.map (·.id))).length = P.ms.length := by rw [srtS_len, List.length_map]
    have hnm := fun (v : Value) (w' : World) (h1 : MsAt w' w' v P.ms) => names_any P v w' h1 (by omega) hsm
    obtain ⟨fr, to_, lv, ms⟩ := P
    dsimp only at *
    obtain ⟨N, hN⟩ : ∃ N, N = srtS (ms.map (·.id)) := ⟨_, rfl⟩
    rw [← hN] at hrise hNL hnm
    obtain ⟨n, hn⟩ : ∃ n, n = ms.length := ⟨_, rfl⟩
    rw [← hn] at hNL htwo hlen
    have HMEM := Lib.hid hmem
    have HSM := Lib.hid hsm
    have HTK := Lib.hid htk
    have HMOST := Lib.hid hmost
    have HRNG := Lib.hid hrng
    have HRISE := Lib.hid hrise
    have HNL := Lib.hid hNL
    have HNM := Lib.hid hnm
    have HN := Lib.hid hn
    clear hS hmem hsm hnonneg htk hmost hrng hap hrise hNL hnm hN HSND
    go_wp2_with fail
    refine (HNX.out _ _ 12 w2 ms2 mp2).mono ?_
    rintro e w3 ⟨pv, rfl, hpv⟩
    dsimp only [Option.getD_some, Option.isSome_some] at hpv ⊢
    obtain ⟨pA, pc, rfl, hpc, hpm⟩ := hpv.shape
    rw [← hn] at hpv hpc ⊢
    unfold plV
    dsimp only
    clear hn
    have b4 := below_trans hpv.below_ (below_al w3 (.cells #[.int .i64 fr, .int .i64 to_, .int .i64 lv, .slice pA n pc] 33))
    have B4 := below_trans B2 b4
    have L4 := L2.below b4
    have P4 := Blk.new w3 #[.int .i64 fr, .int .i64 to_, .int .i64 lv, .slice pA n pc] 33
    have ms4 := (ms2.below b4).base b4
    have mp4 := mp2.below b4
    have pv4 := (hpv.slice.below (below_al w3 (.cells #[.int .i64 fr, .int .i64 to_, .int .i64 lv, .slice pA n pc] 33))).base b4
    clear hpv B2 L2 ms2 mp2 g0 g1 g2 b4
    go_upto_region 4 with fail
    obtain ⟨w4, hw4⟩ : ∃ w4, w4 = w3.alloc (.cells #[.int .i64 fr, .int .i64 to_, .int .i64 lv, .slice pA n pc] 33) := ⟨_, rfl⟩
    rw [← hw4] at B4 L4 P4 ms4 mp4 pv4 ⊢
    clear hw4
    go_wp2_with fail
    refine (awake_any _).mono ?_
    rintro e w5 ⟨rfl, hb5⟩
    have B5 := below_trans B4 hb5
    have L5 := L4.below hb5
    have P5 := P4.below hb5
    have ms5 := (ms4.below hb5).base hb5
    have mp5 := mp4.below hb5
    have pv5 := (pv4.below hb5).base hb5
    clear B4 L4 P4 ms4 mp4 pv4 hb5
    obtain ⟨g0, g1, g2, g3⟩ := P5.c4
    go_wp2_with fail
    refine (HNM.out _ w5 pv5).mono ?_
    rintro e w6 ⟨nv, rfl, hnb⟩
    clear g0 g1 g2 g3
    rw [HNL.out] at hnb
    have b6 := hnb.below
    have nv6 := hnb.slice
    obtain ⟨nA, nc, rfl, hnc⟩ := hnb.buf.shape
    have B6 := below_trans B5 b6
    have L6 := L5.below b6
    have P6 := P5.below b6
    have ms6 := (ms5.below b6).base b6
    have mp6 := mp5.below b6
    have pv6 := (pv5.below b6).base b6
    clear B5 L5 P5 ms5 mp5 pv5 hnb b6
    obtain ⟨g0, g1, g2⟩ := L6.c3
    go_wp2_with fail
    refine (HSH.out _ mb w6 ms6).mono ?_
    rintro e w7 ⟨gb, gn, rfl, hgm, _, hb7⟩
    clear g0 g1 g2
    have B7 := below_trans B6 hb7
    have L7 := L6.below hb7
    have P7 := P6.below hb7
    have mp7 := mp6.below hb7
    have pv7 := (pv6.below hb7).base hb7
    have nv7 := nv6.below hb7
    clear B6 L6 P6 ms6 mp6 pv6 nv6 hb7
    obtain ⟨g0, g1, g2, g3⟩ := P7.c4
    go_wp2_with fail
    clear g0 g1 g2 g3
    go_loopw [11, 48] (fun sv iv wr => ∃ q : Nat, iv = .int .i64 q ∧ q ≤ n ∧ sv = .int .i64 (Pln.bytes (ms.take q)) ∧ Below w7.heap.size w7 wr) (fun _ iv _ => n - (intOf iv).toNat)
    case atStart => exact ⟨0, rfl, Nat.zero_le _, rfl, Below.refl _ _⟩
    case round =>
      obtain ⟨q, rfl, hq, rfl, hB⟩ := hrel
      have hbq := HTK.out q
      have hmost := HMOST.out
      have HBQ : Hid (0 ≤ Pln.bytes (ms.take q) ∧ Pln.bytes (ms.take q) ≤ 262144) := Lib.hid (by omega)
      clear hbq hmost
      have L8 := L7.below hB
      have P8 := P7.below hB
      have B8 := below_trans B7 hB
      by_cases hgo : q < n
      · have hql : q < ms.length := by rw [← HN.out]; exact hgo
        obtain ⟨m, hmk⟩ : ∃ m, ms[q]? = some m := ⟨_, List.getElem?_eq_getElem hql⟩
        obtain ⟨bb, o, x, hpA, _, hxm, hma, c0, c1, c2, c3, c4, c5, c6, c7⟩ := (pv7.below hB).at_ hmk
        have hmem := HMEM.out m (List.mem_of_getElem? hmk)
        have hs := HSM.out m (List.mem_of_getElem? hmk)
        have hid : m.id.length ≤ maxLen := by have := hs.id; unfold maxLen; omega
        have hg0 := HGM.out m.id hmem.2.1
        have hmf : mf m.id = none := hmem.2.2.1
        have hz0 : (mf m.id).getD 0 = 0 := by rw [hmf]; rfl
        have hz1 : (mf m.id).isSome = false := by rw [hmf]; rfl
        have hd1 : decide (m.mn < fr) = false := decide_eq_false (by have := hmem.2.2.2.1; omega)
        have hd2 : decide (to_ < m.mx) = false := decide_eq_false (by have := hmem.2.2.2.2; omega)
        have hbt := bytes_take hmk
        have hrg := HTK.out (q + 1)
        obtain ⟨f, g, hfs, hf1, hf2, hg1, hg2⟩ := hs.fs
        have hsz : size m = f.size + g.size := by unfold size; rw [hfs]; rfl
        rw [hsz] at hbt
        have hms : FlsAt w7 (.slice x.fa m.fs.length x.fc) m.fs := by rw [← hxm]; exact hma.1
        obtain ⟨fb, fo, hfA, hflt, _, k1, _⟩ := hms.at_ (i := 0) (f := f) (by rw [hfs]; rfl)
        obtain ⟨fb', fo', hfA', _, _, k2, _⟩ := hms.at_ (i := 1) (f := g) (by rw [hfs]; rfl)
        rw [hfA] at hfA'
        injection hfA' with hfA'
        injection hfA' with q1 q2 _
        subst q1; subst q2
        have hfl : m.fs.length = 2 := by rw [hfs]; rfl
        rw [hfl, hfA] at c6
        rw [Nat.zero_mul, Nat.add_zero] at k1
        rw [Nat.one_mul] at k2
        obtain ⟨BQ, hBQ⟩ : ∃ BQ, BQ = Pln.bytes (ms.take q) := ⟨_, rfl⟩
        rw [← hBQ] at HBQ hbt ⊢
        have hw1 : IntKind.i64.wrap (f.size + g.size) = f.size + g.size := by rw [IntKind.wrap_i64]; omega
        have hw2 : IntKind.i64.wrap (BQ + (f.size + g.size)) = BQ + (f.size + g.size) := by have := HBQ.out; rw [IntKind.wrap_i64]; omega
        have HBT := Lib.hid hbt
        have HK1 := Lib.hid k1
        have HK2 := Lib.hid k2
        have HPA := Lib.hid hpA
        have HG0 := Lib.hid hg0
        have hgm8 := hgm.below hB
        have mp8 := mp7.below hB
        have nv8 := nv7.below hB
        have hci : (0 : Int) ≤ (q : Int) := by omega
        clear hmem hs hg0 hmf hbt hrg hfs hsz hms hxm hma hfA hfl k1 k2 hpA hBQ
        rw [HPA.out]
        go_upto_region 12 with fail
        rw [← HPA.out]
        have T9 := Blk.new wr #[.string (bs m.id), .int .i64 m.mn, .int .i64 m.mx, .int .i64 m.lv, .int .i64 m.sr, .int .i64 m.sm, .slice (some ⟨fb, fo, none⟩) 2 x.fc, .slice x.sa m.ss.length x.sc] 55
        have b9 := below_al wr (.cells #[.string (bs m.id), .int .i64 m.mn, .int .i64 m.mx, .int .i64 m.lv, .int .i64 m.sr, .int .i64 m.sm, .slice (some ⟨fb, fo, none⟩) 2 x.fc, .slice x.sa m.ss.length x.sc] 55)
        have L9 := L8.below b9
        have P9 := P8.below b9
        have mp9 := mp8.below b9
        have hgm9 := hgm8.below b9
        have nv9 := nv8.below b9
        have hB9 := below_trans hB b9
        clear c0 c1 c2 c3 c4 c5 c6 c7 b9 L8 P8 mp8 hgm8 nv8 B8 hB
        obtain ⟨w9, hw9⟩ : ∃ w9, w9 = wr.alloc (.cells #[.string (bs m.id), .int .i64 m.mn, .int .i64 m.mx, .int .i64 m.lv, .int .i64 m.sr, .int .i64 m.sm, .slice (some ⟨fb, fo, none⟩) 2 x.fc, .slice x.sa m.ss.length x.sc] 55) := ⟨_, rfl⟩
        rw [← hw9] at T9 L9 P9 mp9 hgm9 nv9 hB9 ⊢
        clear hw9
        have g2 : w9.cell? ⟨w1.heap.size, 2, none⟩ = some (.map (some mb)) := L9.cell (i := 2) rfl
        have t0 : w9.cell? ⟨wr.heap.size, 0, none⟩ = some (.string (bs m.id)) := T9.cell (i := 0) rfl
        go_upto_region 13 with (at_lookup; refine wpList_lookup_mp_ok _ rfl _ _ 24 rfl marks_ty rfl mp9 m.id rfl hid 0 hz0 false hz1 ?_)
        clear g2 t0
        obtain ⟨s1, hs1⟩ : ∃ s1, N[q]? = some s1 := ⟨_, List.getElem?_eq_getElem (by rw [HNL.out]; exact hgo)⟩
        obtain ⟨nb, no, hnA, _, n1⟩ := SrcAt.at_ (A := nA) (n := n) (c := nc) (ss := N) (show SrcAt w9 (.slice nA n nc) N by unfold SrcAt; rw [HNL.out]; exact nv9) hs1
        have HNA := Lib.hid hnA
        have HT := Lib.hid T9
        have HP := Lib.hid P9
        have HG9 := Lib.hid hgm9
        have HN1 := Lib.hid n1
        have HB9 := Lib.hid hB9
        have HNV := Lib.hid nv9
        have HS1 := Lib.hid hs1
        clear T9 P9 hgm9 n1 hnA L9 mp9 hB9 nv9 hs1 hz0 hz1
        have hfin : ∀ wz, Below w9.heap.size w9 wz → True := fun _ _ => trivial
        clear hfin
        rcases q with _ | q
        · have hq0 := hci
          clear hq0
          refine wp_region_facts [(4, (isV (.string (bs m.id)), noFact)), (5, (isV (.int .i64 0), noFact)), (10, (isV (.int .i64 m.mn), noFact)), (12, (isV (.int .i64 fr), noFact)), (17, (isV (.int .i64 m.mx), noFact)), (19, (isV (.int .i64 to_), noFact))] (by kernel_rfl) 157 (by kernel_rfl) rfl ?_ ?_ ?_
          · apply lookup_ne
            simp only [List.forall_mem_cons, List.not_mem_nil, false_imp_iff, implies_true, and_true]
            exact ⟨⟨_, rfl⟩, ⟨_, rfl⟩, ⟨_, rfl⟩, ⟨_, rfl⟩, ⟨_, rfl⟩, ⟨_, rfl⟩⟩
          · apply lookup_st
            simp only [List.forall_mem_cons, List.not_mem_nil, false_imp_iff, implies_true, and_true]
            refine ⟨?_, ?_, ?_, ?_, ?_, ?_⟩
            · exact fun _ _ _ _ _ => trivial
            · exact fun _ _ _ _ _ => trivial
            · exact fun _ _ _ _ _ => trivial
            · exact fun _ _ _ _ _ => trivial
            · exact fun _ _ _ _ _ => trivial
            · exact fun _ _ _ _ _ => trivial
          repeat (first
            | (refine Chain.step (v := ?_) (a' := ?_) rfl rfl rfl ?_ ?_ ?_
               rotate_left 2
               focus (intro w; go_simp; try with_reducible rfl)
               focus (simp only [Act.put, List.setIfInBounds_toArray, List.set_cons_succ, List.set_cons_zero]; try rfl))
            | (refine Chain.skip (a' := ?_) rfl rfl rfl ?_ ?_
               rotate_left 1
               focus (simp only [Act.put, List.setIfInBounds_toArray, List.set_cons_succ, List.set_cons_zero]; try rfl)))
          refine Chain.call' (a' := ?_) _ rfl rfl rfl rfl (fun wx hw hF => ?_) ?_ ?_
          rotate_left 1
          focus
            obtain ⟨g0, g1, g2, g3, g4, g5, g6, g7⟩ := Blk.c8 (HT.out.below hw); go_simp; first | exact ⟨rfl, Below.refl _ _⟩ | exact Below.refl _ _
          focus (simp only [Act.put, List.setIfInBounds_toArray, List.set_cons_succ, List.set_cons_zero]; try rfl)
          repeat (first
            | (refine Chain.step (v := ?_) (a' := ?_) rfl rfl rfl ?_ ?_ ?_
               rotate_left 2
               focus (intro w; go_simp; try with_reducible rfl)
               focus (simp only [Act.put, List.setIfInBounds_toArray, List.set_cons_succ, List.set_cons_zero]; try rfl))
            | (refine Chain.skip (a' := ?_) rfl rfl rfl ?_ ?_
               rotate_left 1
               focus (simp only [Act.put, List.setIfInBounds_toArray, List.set_cons_succ, List.set_cons_zero]; try rfl)))
          refine Chain.call' (a' := ?_) _ rfl rfl rfl rfl (fun wx hw hF => ?_) ?_ ?_
          rotate_left 1
          focus
            refine oper_lookup_mp (.tmp 63) (.tmp 65) 24 rfl marks_ty rfl (HG9.out.below hw) m.id rfl hid 0 HG0.out ⟨rfl, Below.refl _ _⟩
          focus (simp only [Act.put, List.setIfInBounds_toArray, List.set_cons_succ, List.set_cons_zero]; try rfl)
          repeat (first
            | (refine Chain.step (v := ?_) (a' := ?_) rfl rfl rfl ?_ ?_ ?_
               rotate_left 2
               focus (intro w; go_simp; try with_reducible rfl)
               focus (simp only [Act.put, List.setIfInBounds_toArray, List.set_cons_succ, List.set_cons_zero]; try rfl))
            | (refine Chain.skip (a' := ?_) rfl rfl rfl ?_ ?_
               rotate_left 1
               focus (simp only [Act.put, List.setIfInBounds_toArray, List.set_cons_succ, List.set_cons_zero]; try rfl)))
          refine Chain.call' (a' := ?_) _ rfl rfl rfl rfl (fun wx hw hF => ?_) ?_ ?_
          rotate_left 1
          focus
            obtain ⟨g0, g1, g2, g3, g4, g5, g6, g7⟩ := Blk.c8 (HT.out.below hw); go_simp; first | exact ⟨rfl, Below.refl _ _⟩ | exact Below.refl _ _
          focus (simp only [Act.put, List.setIfInBounds_toArray, List.set_cons_succ, List.set_cons_zero]; try rfl)
          repeat (first
            | (refine Chain.step (v := ?_) (a' := ?_) rfl rfl rfl ?_ ?_ ?_
               rotate_left 2
               focus (intro w; go_simp; try with_reducible rfl)
               focus (simp only [Act.put, List.setIfInBounds_toArray, List.set_cons_succ, List.set_cons_zero]; try rfl))
            | (refine Chain.skip (a' := ?_) rfl rfl rfl ?_ ?_
               rotate_left 1
               focus (simp only [Act.put, List.setIfInBounds_toArray, List.set_cons_succ, List.set_cons_zero]; try rfl)))
          refine Chain.call' (a' := ?_) _ rfl rfl rfl rfl (fun wx hw hF => ?_) ?_ ?_
          rotate_left 1
          focus
            obtain ⟨g0, g1, g2, g3⟩ := Blk.c4 (HP.out.below hw); go_simp; first | exact ⟨rfl, Below.refl _ _⟩ | exact Below.refl _ _
          focus (simp only [Act.put, List.setIfInBounds_toArray, List.set_cons_succ, List.set_cons_zero]; try rfl)
          repeat (first
            | (refine Chain.step (v := ?_) (a' := ?_) rfl rfl rfl ?_ ?_ ?_
               rotate_left 2
               focus (intro w; go_simp; try with_reducible rfl)
               focus (simp only [Act.put, List.setIfInBounds_toArray, List.set_cons_succ, List.set_cons_zero]; try rfl))
            | (refine Chain.skip (a' := ?_) rfl rfl rfl ?_ ?_
               rotate_left 1
               focus (simp only [Act.put, List.setIfInBounds_toArray, List.set_cons_succ, List.set_cons_zero]; try rfl)))
          refine Chain.call' (a' := ?_) _ rfl rfl rfl rfl (fun wx hw hF => ?_) ?_ ?_
          rotate_left 1
          focus
            obtain ⟨g0, g1, g2, g3, g4, g5, g6, g7⟩ := Blk.c8 (HT.out.below hw); go_simp; first | exact ⟨rfl, Below.refl _ _⟩ | exact Below.refl _ _
          focus (simp only [Act.put, List.setIfInBounds_toArray, List.set_cons_succ, List.set_cons_zero]; try rfl)
          repeat (first
            | (refine Chain.step (v := ?_) (a' := ?_) rfl rfl rfl ?_ ?_ ?_
               rotate_left 2
               focus (intro w; go_simp; try with_reducible rfl)
               focus (simp only [Act.put, List.setIfInBounds_toArray, List.set_cons_succ, List.set_cons_zero]; try rfl))
            | (refine Chain.skip (a' := ?_) rfl rfl rfl ?_ ?_
               rotate_left 1
               focus (simp only [Act.put, List.setIfInBounds_toArray, List.set_cons_succ, List.set_cons_zero]; try rfl)))
          refine Chain.call' (a' := ?_) _ rfl rfl rfl rfl (fun wx hw hF => ?_) ?_ ?_
          rotate_left 1
          focus
            obtain ⟨g0, g1, g2, g3⟩ := Blk.c4 (HP.out.below hw); go_simp; first | exact ⟨rfl, Below.refl _ _⟩ | exact Below.refl _ _
          focus (simp only [Act.put, List.setIfInBounds_toArray, List.set_cons_succ, List.set_cons_zero]; try rfl)
          repeat (first
            | (refine Chain.step (v := ?_) (a' := ?_) rfl rfl rfl ?_ ?_ ?_
               rotate_left 2
               focus (intro w; go_simp; try with_reducible rfl)
               focus (simp only [Act.put, List.setIfInBounds_toArray, List.set_cons_succ, List.set_cons_zero]; try rfl))
            | (refine Chain.skip (a' := ?_) rfl rfl rfl ?_ ?_
               rotate_left 1
               focus (simp only [Act.put, List.setIfInBounds_toArray, List.set_cons_succ, List.set_cons_zero]; try rfl)))
          refine Chain.end_ (fun wz hwz _ => ?_)
          go_upto_region 15 with fail
          refine wp_region_facts [(2, (isV (.slice (some ⟨fb, fo, none⟩) 2 x.fc), noFact)), (5, (isV (.int .i64 f.size), noFact)), (7, (isV (.slice (some ⟨fb, fo, none⟩) 2 x.fc), noFact)), (10, (isV (.int .i64 g.size), noFact))] (by kernel_rfl) 157 (by kernel_rfl) rfl ?_ ?_ ?_
          · apply lookup_ne
            simp only [List.forall_mem_cons, List.not_mem_nil, false_imp_iff, implies_true, and_true]
            exact ⟨⟨_, rfl⟩, ⟨_, rfl⟩, ⟨_, rfl⟩, ⟨_, rfl⟩⟩
          · apply lookup_st
            simp only [List.forall_mem_cons, List.not_mem_nil, false_imp_iff, implies_true, and_true]
            refine ⟨?_, ?_, ?_, ?_⟩
            · exact fun _ _ _ _ _ => trivial
            · exact fun _ _ _ _ _ => trivial
            · exact fun _ _ _ _ _ => trivial
            · exact fun _ _ _ _ _ => trivial
          repeat (first
            | (refine Chain.step (v := ?_) (a' := ?_) rfl rfl rfl ?_ ?_ ?_
               rotate_left 2
               focus (intro w; go_simp; try with_reducible rfl)
               focus (simp only [Act.put, List.setIfInBounds_toArray, List.set_cons_succ, List.set_cons_zero]; try rfl))
            | (refine Chain.skip (a' := ?_) rfl rfl rfl ?_ ?_
               rotate_left 1
               focus (simp only [Act.put, List.setIfInBounds_toArray, List.set_cons_succ, List.set_cons_zero]; try rfl)))
          refine Chain.call' (a' := ?_) _ rfl rfl rfl rfl (fun wx hw hF => ?_) ?_ ?_
          rotate_left 1
          focus
            obtain ⟨g0, g1, g2, g3, g4, g5, g6, g7⟩ := Blk.c8 (HT.out.below (below_trans hwz hw)); go_simp; first | exact ⟨rfl, Below.refl _ _⟩ | exact Below.refl _ _
          focus (simp only [Act.put, List.setIfInBounds_toArray, List.set_cons_succ, List.set_cons_zero]; try rfl)
          repeat (first
            | (refine Chain.step (v := ?_) (a' := ?_) rfl rfl rfl ?_ ?_ ?_
               rotate_left 2
               focus (intro w; go_simp; try with_reducible rfl)
               focus (simp only [Act.put, List.setIfInBounds_toArray, List.set_cons_succ, List.set_cons_zero]; try rfl))
            | (refine Chain.skip (a' := ?_) rfl rfl rfl ?_ ?_
               rotate_left 1
               focus (simp only [Act.put, List.setIfInBounds_toArray, List.set_cons_succ, List.set_cons_zero]; try rfl)))
          refine Chain.call' (a' := ?_) _ rfl rfl rfl rfl (fun wx hw hF => ?_) ?_ ?_
          rotate_left 1
          focus
            have g0 := (Below.cell (below_trans HB9.out (below_trans hwz hw)) (p := ⟨fb, fo + 1, none⟩) hflt).trans HK1.out
            go_simp
            first | exact ⟨rfl, Below.refl _ _⟩ | exact Below.refl _ _
          focus (simp only [Act.put, List.setIfInBounds_toArray, List.set_cons_succ, List.set_cons_zero]; try rfl)
          repeat (first
            | (refine Chain.step (v := ?_) (a' := ?_) rfl rfl rfl ?_ ?_ ?_
               rotate_left 2
               focus (intro w; go_simp; try with_reducible rfl)
               focus (simp only [Act.put, List.setIfInBounds_toArray, List.set_cons_succ, List.set_cons_zero]; try rfl))
            | (refine Chain.skip (a' := ?_) rfl rfl rfl ?_ ?_
               rotate_left 1
               focus (simp only [Act.put, List.setIfInBounds_toArray, List.set_cons_succ, List.set_cons_zero]; try rfl)))
          refine Chain.call' (a' := ?_) _ rfl rfl rfl rfl (fun wx hw hF => ?_) ?_ ?_
          rotate_left 1
          focus
            obtain ⟨g0, g1, g2, g3, g4, g5, g6, g7⟩ := Blk.c8 (HT.out.below (below_trans hwz hw)); go_simp; first | exact ⟨rfl, Below.refl _ _⟩ | exact Below.refl _ _
          focus (simp only [Act.put, List.setIfInBounds_toArray, List.set_cons_succ, List.set_cons_zero]; try rfl)
          repeat (first
            | (refine Chain.step (v := ?_) (a' := ?_) rfl rfl rfl ?_ ?_ ?_
               rotate_left 2
               focus (intro w; go_simp; try with_reducible rfl)
               focus (simp only [Act.put, List.setIfInBounds_toArray, List.set_cons_succ, List.set_cons_zero]; try rfl))
            | (refine Chain.skip (a' := ?_) rfl rfl rfl ?_ ?_
               rotate_left 1
               focus (simp only [Act.put, List.setIfInBounds_toArray, List.set_cons_succ, List.set_cons_zero]; try rfl)))
          refine Chain.call' (a' := ?_) _ rfl rfl rfl rfl (fun wx hw hF => ?_) ?_ ?_
          rotate_left 1
          focus
            have g0 := (Below.cell (below_trans HB9.out (below_trans hwz hw)) (p := ⟨fb, fo + 3 + 1, none⟩) hflt).trans HK2.out
            go_simp
            first | exact ⟨rfl, Below.refl _ _⟩ | exact Below.refl _ _
          focus (simp only [Act.put, List.setIfInBounds_toArray, List.set_cons_succ, List.set_cons_zero]; try rfl)
          repeat (first
            | (refine Chain.step (v := ?_) (a' := ?_) rfl rfl rfl ?_ ?_ ?_
               rotate_left 2
               focus (intro w; go_simp; try with_reducible rfl)
               focus (simp only [Act.put, List.setIfInBounds_toArray, List.set_cons_succ, List.set_cons_zero]; try rfl))
            | (refine Chain.skip (a' := ?_) rfl rfl rfl ?_ ?_
               rotate_left 1
               focus (simp only [Act.put, List.setIfInBounds_toArray, List.set_cons_succ, List.set_cons_zero]; try rfl)))
          refine Chain.end_ (fun wy hwy _ => ?_)
          go_wp2_with fail
          refine ⟨?_, by simp [intOf]; omega⟩
          repeat apply Exists.intro
          refine And.intro ?_ ?_
          rotate_left 1
          · exact ⟨rfl, rfl, rfl, rfl, rfl, rfl, HPA.out, rfl⟩
          · exact ⟨1, rfl, by omega, by rw [HBT.out], below_trans HB9.out (below_trans hwz hwy)⟩
        · obtain ⟨s0, hs0⟩ : ∃ s0, N[q]? = some s0 := ⟨_, List.getElem?_eq_getElem (by rw [HNL.out]; omega)⟩
          obtain ⟨nb', no', hnA', _, n0⟩ := SrcAt.at_ (A := nA) (n := n) (c := nc) (ss := N) (show SrcAt w9 (.slice nA n nc) N by unfold SrcAt; rw [HNL.out]; exact HNV.out) hs0
          have hna := HNA.out
          rw [hna] at hnA'
          injection hnA' with hnA'
          injection hnA' with q1 q2 _
          subst q1; subst q2
          have hless : s0 < s1 := by
            have hq0 : q < N.length := by rw [HNL.out]; omega
            have hq1 : q + 1 < N.length := by rw [HNL.out]; omega
            have h := List.pairwise_iff_getElem.1 HRISE.out q (q + 1) hq0 hq1 (by omega)
            have g0 := hs0
            have g1 := HS1.out
            rw [List.getElem?_eq_getElem hq0] at g0
            rw [List.getElem?_eq_getElem hq1] at g1
            injection g0 with g0
            injection g1 with g1
            rw [g0, g1] at h
            exact h
          have hbl : Op.bytesLess s0 s1 = true := by rw [Lab.less_eq]; exact decide_eq_true hless
          have hbl2 : Op.bytesLess s1 s0 = false := by rw [Lab.less_eq]; exact decide_eq_false (Lab.b_asymm hless)
          have HN0 := Lib.hid n0
          have hnz : (0 : Int) < (q : Int) + 1 := by omega
          have hqn : (q : Int) < (n : Int) := by omega
          have hq1n : (q : Int) + 1 < (n : Int) := by omega
          have hq0 : (0 : Int) ≤ (q : Int) := by omega
          have hq10 : (0 : Int) ≤ (q : Int) + 1 := by omega
          have hqt : ((q : Int) + 1).toNat = q + 1 := by omega
          have hwq : IntKind.i64.wrap ((q : Int) + 1 - 1) = (q : Int) := by rw [IntKind.wrap_i64]; omega
          have hwq2 : IntKind.i64.wrap (q : Int) = (q : Int) := by rw [IntKind.wrap_i64]; omega
          clear hs0 hna n0 hless
          rw [HNA.out]
          refine wp_region_facts [(4, (isV (.string (bs m.id)), noFact)), (5, (isV (.int .i64 0), noFact)), (10, (isV (.int .i64 m.mn), noFact)), (12, (isV (.int .i64 fr), noFact)), (17, (isV (.int .i64 m.mx), noFact)), (19, (isV (.int .i64 to_), noFact)), (30, (isV (.string (bs s0)), noFact)), (34, (isV (.string (bs s1)), noFact))] (by kernel_rfl) 157 (by kernel_rfl) rfl ?_ ?_ ?_
          · apply lookup_ne
            simp only [List.forall_mem_cons, List.not_mem_nil, false_imp_iff, implies_true, and_true]
            exact ⟨⟨_, rfl⟩, ⟨_, rfl⟩, ⟨_, rfl⟩, ⟨_, rfl⟩, ⟨_, rfl⟩, ⟨_, rfl⟩, ⟨_, rfl⟩, ⟨_, rfl⟩⟩
          · apply lookup_st
            simp only [List.forall_mem_cons, List.not_mem_nil, false_imp_iff, implies_true, and_true]
            refine ⟨?_, ?_, ?_, ?_, ?_, ?_, ?_, ?_⟩
            · exact fun _ _ _ _ _ => trivial
            · exact fun _ _ _ _ _ => trivial
            · exact fun _ _ _ _ _ => trivial
            · exact fun _ _ _ _ _ => trivial
            · exact fun _ _ _ _ _ => trivial
            · exact fun _ _ _ _ _ => trivial
            · exact fun _ _ _ _ _ => trivial
            · exact fun _ _ _ _ _ => trivial
          repeat (first
            | (refine Chain.step (v := ?_) (a' := ?_) rfl rfl rfl ?_ ?_ ?_
               rotate_left 2
               focus (intro w; go_simp; try with_reducible rfl)
               focus (simp only [Act.put, List.setIfInBounds_toArray, List.set_cons_succ, List.set_cons_zero]; try rfl))
            | (refine Chain.skip (a' := ?_) rfl rfl rfl ?_ ?_
               rotate_left 1
               focus (simp only [Act.put, List.setIfInBounds_toArray, List.set_cons_succ, List.set_cons_zero]; try rfl)))
          refine Chain.call' (a' := ?_) _ rfl rfl rfl rfl (fun wx hw hF => ?_) ?_ ?_
          rotate_left 1
          focus
            obtain ⟨g0, g1, g2, g3, g4, g5, g6, g7⟩ := Blk.c8 (HT.out.below hw); go_simp; first | exact ⟨rfl, Below.refl _ _⟩ | exact Below.refl _ _
          focus (simp only [Act.put, List.setIfInBounds_toArray, List.set_cons_succ, List.set_cons_zero]; try rfl)
          repeat (first
            | (refine Chain.step (v := ?_) (a' := ?_) rfl rfl rfl ?_ ?_ ?_
               rotate_left 2
               focus (intro w; go_simp; try with_reducible rfl)
               focus (simp only [Act.put, List.setIfInBounds_toArray, List.set_cons_succ, List.set_cons_zero]; try rfl))
            | (refine Chain.skip (a' := ?_) rfl rfl rfl ?_ ?_
               rotate_left 1
               focus (simp only [Act.put, List.setIfInBounds_toArray, List.set_cons_succ, List.set_cons_zero]; try rfl)))
          refine Chain.call' (a' := ?_) _ rfl rfl rfl rfl (fun wx hw hF => ?_) ?_ ?_
          rotate_left 1
          focus
            refine oper_lookup_mp (.tmp 63) (.tmp 65) 24 rfl marks_ty rfl (HG9.out.below hw) m.id rfl hid 0 HG0.out ⟨rfl, Below.refl _ _⟩
          focus (simp only [Act.put, List.setIfInBounds_toArray, List.set_cons_succ, List.set_cons_zero]; try rfl)
          repeat (first
            | (refine Chain.step (v := ?_) (a' := ?_) rfl rfl rfl ?_ ?_ ?_
               rotate_left 2
               focus (intro w; go_simp; try with_reducible rfl)
               focus (simp only [Act.put, List.setIfInBounds_toArray, List.set_cons_succ, List.set_cons_zero]; try rfl))
            | (refine Chain.skip (a' := ?_) rfl rfl rfl ?_ ?_
               rotate_left 1
               focus (simp only [Act.put, List.setIfInBounds_toArray, List.set_cons_succ, List.set_cons_zero]; try rfl)))
          refine Chain.call' (a' := ?_) _ rfl rfl rfl rfl (fun wx hw hF => ?_) ?_ ?_
          rotate_left 1
          focus
            obtain ⟨g0, g1, g2, g3, g4, g5, g6, g7⟩ := Blk.c8 (HT.out.below hw); go_simp; first | exact ⟨rfl, Below.refl _ _⟩ | exact Below.refl _ _
          focus (simp only [Act.put, List.setIfInBounds_toArray, List.set_cons_succ, List.set_cons_zero]; try rfl)
          repeat (first
            | (refine Chain.step (v := ?_) (a' := ?_) rfl rfl rfl ?_ ?_ ?_
               rotate_left 2
               focus (intro w; go_simp; try with_reducible rfl)
               focus (simp only [Act.put, List.setIfInBounds_toArray, List.set_cons_succ, List.set_cons_zero]; try rfl))
            | (refine Chain.skip (a' := ?_) rfl rfl rfl ?_ ?_
               rotate_left 1
               focus (simp only [Act.put, List.setIfInBounds_toArray, List.set_cons_succ, List.set_cons_zero]; try rfl)))
          refine Chain.call' (a' := ?_) _ rfl rfl rfl rfl (fun wx hw hF => ?_) ?_ ?_
          rotate_left 1
          focus
            obtain ⟨g0, g1, g2, g3⟩ := Blk.c4 (HP.out.below hw); go_simp; first | exact ⟨rfl, Below.refl _ _⟩ | exact Below.refl _ _
          focus (simp only [Act.put, List.setIfInBounds_toArray, List.set_cons_succ, List.set_cons_zero]; try rfl)
          repeat (first
            | (refine Chain.step (v := ?_) (a' := ?_) rfl rfl rfl ?_ ?_ ?_
               rotate_left 2
               focus (intro w; go_simp; try with_reducible rfl)
               focus (simp only [Act.put, List.setIfInBounds_toArray, List.set_cons_succ, List.set_cons_zero]; try rfl))
            | (refine Chain.skip (a' := ?_) rfl rfl rfl ?_ ?_
               rotate_left 1
               focus (simp only [Act.put, List.setIfInBounds_toArray, List.set_cons_succ, List.set_cons_zero]; try rfl)))
          refine Chain.call' (a' := ?_) _ rfl rfl rfl rfl (fun wx hw hF => ?_) ?_ ?_
          rotate_left 1
          focus
            obtain ⟨g0, g1, g2, g3, g4, g5, g6, g7⟩ := Blk.c8 (HT.out.below hw); go_simp; first | exact ⟨rfl, Below.refl _ _⟩ | exact Below.refl _ _
          focus (simp only [Act.put, List.setIfInBounds_toArray, List.set_cons_succ, List.set_cons_zero]; try rfl)
          repeat (first
            | (refine Chain.step (v := ?_) (a' := ?_) rfl rfl rfl ?_ ?_ ?_
               rotate_left 2
               focus (intro w; go_simp; try with_reducible rfl)
               focus (simp only [Act.put, List.setIfInBounds_toArray, List.set_cons_succ, List.set_cons_zero]; try rfl))
            | (refine Chain.skip (a' := ?_) rfl rfl rfl ?_ ?_
               rotate_left 1
               focus (simp only [Act.put, List.setIfInBounds_toArray, List.set_cons_succ, List.set_cons_zero]; try rfl)))
          refine Chain.call' (a' := ?_) _ rfl rfl rfl rfl (fun wx hw hF => ?_) ?_ ?_
          rotate_left 1
          focus
            obtain ⟨g0, g1, g2, g3⟩ := Blk.c4 (HP.out.below hw); go_simp; first | exact ⟨rfl, Below.refl _ _⟩ | exact Below.refl _ _
          focus (simp only [Act.put, List.setIfInBounds_toArray, List.set_cons_succ, List.set_cons_zero]; try rfl)
          repeat (first
            | (refine Chain.step (v := ?_) (a' := ?_) rfl rfl rfl ?_ ?_ ?_
               rotate_left 2
               focus (intro w; go_simp; try with_reducible rfl)
               focus (simp only [Act.put, List.setIfInBounds_toArray, List.set_cons_succ, List.set_cons_zero]; try rfl))
            | (refine Chain.skip (a' := ?_) rfl rfl rfl ?_ ?_
               rotate_left 1
               focus (simp only [Act.put, List.setIfInBounds_toArray, List.set_cons_succ, List.set_cons_zero]; try rfl)))
          refine Chain.call' (a' := ?_) _ rfl rfl rfl rfl (fun wx hw hF => ?_) ?_ ?_
          rotate_left 1
          focus
            have g0 := (Below.cell hw (p := ⟨nb, no + q, none⟩) (Go.World.block_lt_of_cell? _ _ HN0.out)).trans HN0.out
            go_simp
            first | exact ⟨rfl, Below.refl _ _⟩ | exact Below.refl _ _
          focus (simp only [Act.put, List.setIfInBounds_toArray, List.set_cons_succ, List.set_cons_zero]; try rfl)
          repeat (first
            | (refine Chain.step (v := ?_) (a' := ?_) rfl rfl rfl ?_ ?_ ?_
               rotate_left 2
               focus (intro w; go_simp; try with_reducible rfl)
               focus (simp only [Act.put, List.setIfInBounds_toArray, List.set_cons_succ, List.set_cons_zero]; try rfl))
            | (refine Chain.skip (a' := ?_) rfl rfl rfl ?_ ?_
               rotate_left 1
               focus (simp only [Act.put, List.setIfInBounds_toArray, List.set_cons_succ, List.set_cons_zero]; try rfl)))
          refine Chain.call' (a' := ?_) _ rfl rfl rfl rfl (fun wx hw hF => ?_) ?_ ?_
          rotate_left 1
          focus
            have g0 := (Below.cell hw (p := ⟨nb, no + (q + 1), none⟩) (Go.World.block_lt_of_cell? _ _ HN1.out)).trans HN1.out
            go_simp
            first | exact ⟨rfl, Below.refl _ _⟩ | exact Below.refl _ _
          focus (simp only [Act.put, List.setIfInBounds_toArray, List.set_cons_succ, List.set_cons_zero]; try rfl)
          repeat (first
            | (refine Chain.step (v := ?_) (a' := ?_) rfl rfl rfl ?_ ?_ ?_
               rotate_left 2
               focus (intro w; go_simp; try with_reducible rfl)
               focus (simp only [Act.put, List.setIfInBounds_toArray, List.set_cons_succ, List.set_cons_zero]; try rfl))
            | (refine Chain.skip (a' := ?_) rfl rfl rfl ?_ ?_
               rotate_left 1
               focus (simp only [Act.put, List.setIfInBounds_toArray, List.set_cons_succ, List.set_cons_zero]; try rfl)))
          refine Chain.end_ (fun wz hwz _ => ?_)
          go_upto_region 15 with fail
          refine wp_region_facts [(2, (isV (.slice (some ⟨fb, fo, none⟩) 2 x.fc), noFact)), (5, (isV (.int .i64 f.size), noFact)), (7, (isV (.slice (some ⟨fb, fo, none⟩) 2 x.fc), noFact)), (10, (isV (.int .i64 g.size), noFact))] (by kernel_rfl) 157 (by kernel_rfl) rfl ?_ ?_ ?_
          · apply lookup_ne
            simp only [List.forall_mem_cons, List.not_mem_nil, false_imp_iff, implies_true, and_true]
            exact ⟨⟨_, rfl⟩, ⟨_, rfl⟩, ⟨_, rfl⟩, ⟨_, rfl⟩⟩
          · apply lookup_st
            simp only [List.forall_mem_cons, List.not_mem_nil, false_imp_iff, implies_true, and_true]
            refine ⟨?_, ?_, ?_, ?_⟩
            · exact fun _ _ _ _ _ => trivial
            · exact fun _ _ _ _ _ => trivial
            · exact fun _ _ _ _ _ => trivial
            · exact fun _ _ _ _ _ => trivial
          repeat (first
            | (refine Chain.step (v := ?_) (a' := ?_) rfl rfl rfl ?_ ?_ ?_
               rotate_left 2
               focus (intro w; go_simp; try with_reducible rfl)
               focus (simp only [Act.put, List.setIfInBounds_toArray, List.set_cons_succ, List.set_cons_zero]; try rfl))
            | (refine Chain.skip (a' := ?_) rfl rfl rfl ?_ ?_
               rotate_left 1
               focus (simp only [Act.put, List.setIfInBounds_toArray, List.set_cons_succ, List.set_cons_zero]; try rfl)))
          refine Chain.call' (a' := ?_) _ rfl rfl rfl rfl (fun wx hw hF => ?_) ?_ ?_
          rotate_left 1
          focus
            obtain ⟨g0, g1, g2, g3, g4, g5, g6, g7⟩ := Blk.c8 (HT.out.below (below_trans hwz hw)); go_simp; first | exact ⟨rfl, Below.refl _ _⟩ | exact Below.refl _ _
          focus (simp only [Act.put, List.setIfInBounds_toArray, List.set_cons_succ, List.set_cons_zero]; try rfl)
          repeat (first
            | (refine Chain.step (v := ?_) (a' := ?_) rfl rfl rfl ?_ ?_ ?_
               rotate_left 2
               focus (intro w; go_simp; try with_reducible rfl)
               focus (simp only [Act.put, List.setIfInBounds_toArray, List.set_cons_succ, List.set_cons_zero]; try rfl))
            | (refine Chain.skip (a' := ?_) rfl rfl rfl ?_ ?_
               rotate_left 1
               focus (simp only [Act.put, List.setIfInBounds_toArray, List.set_cons_succ, List.set_cons_zero]; try rfl)))
          refine Chain.call' (a' := ?_) _ rfl rfl rfl rfl (fun wx hw hF => ?_) ?_ ?_
          rotate_left 1
          focus
            have g0 := (Below.cell (below_trans HB9.out (below_trans hwz hw)) (p := ⟨fb, fo + 1, none⟩) hflt).trans HK1.out
            go_simp
            first | exact ⟨rfl, Below.refl _ _⟩ | exact Below.refl _ _
          focus (simp only [Act.put, List.setIfInBounds_toArray, List.set_cons_succ, List.set_cons_zero]; try rfl)
          repeat (first
            | (refine Chain.step (v := ?_) (a' := ?_) rfl rfl rfl ?_ ?_ ?_
               rotate_left 2
               focus (intro w; go_simp; try with_reducible rfl)
               focus (simp only [Act.put, List.setIfInBounds_toArray, List.set_cons_succ, List.set_cons_zero]; try rfl))
            | (refine Chain.skip (a' := ?_) rfl rfl rfl ?_ ?_
               rotate_left 1
               focus (simp only [Act.put, List.setIfInBounds_toArray, List.set_cons_succ, List.set_cons_zero]; try rfl)))
          refine Chain.call' (a' := ?_) _ rfl rfl rfl rfl (fun wx hw hF => ?_) ?_ ?_
          rotate_left 1
          focus
            obtain ⟨g0, g1, g2, g3, g4, g5, g6, g7⟩ := Blk.c8 (HT.out.below (below_trans hwz hw)); go_simp; first | exact ⟨rfl, Below.refl _ _⟩ | exact Below.refl _ _
          focus (simp only [Act.put, List.setIfInBounds_toArray, List.set_cons_succ, List.set_cons_zero]; try rfl)
          repeat (first
            | (refine Chain.step (v := ?_) (a' := ?_) rfl rfl rfl ?_ ?_ ?_
               rotate_left 2
               focus (intro w; go_simp; try with_reducible rfl)
               focus (simp only [Act.put, List.setIfInBounds_toArray, List.set_cons_succ, List.set_cons_zero]; try rfl))
            | (refine Chain.skip (a' := ?_) rfl rfl rfl ?_ ?_
               rotate_left 1
               focus (simp only [Act.put, List.setIfInBounds_toArray, List.set_cons_succ, List.set_cons_zero]; try rfl)))
          refine Chain.call' (a' := ?_) _ rfl rfl rfl rfl (fun wx hw hF => ?_) ?_ ?_
          rotate_left 1
          focus
            have g0 := (Below.cell (below_trans HB9.out (below_trans hwz hw)) (p := ⟨fb, fo + 3 + 1, none⟩) hflt).trans HK2.out
            go_simp
            first | exact ⟨rfl, Below.refl _ _⟩ | exact Below.refl _ _
          focus (simp only [Act.put, List.setIfInBounds_toArray, List.set_cons_succ, List.set_cons_zero]; try rfl)
          repeat (first
            | (refine Chain.step (v := ?_) (a' := ?_) rfl rfl rfl ?_ ?_ ?_
               rotate_left 2
               focus (intro w; go_simp; try with_reducible rfl)
               focus (simp only [Act.put, List.setIfInBounds_toArray, List.set_cons_succ, List.set_cons_zero]; try rfl))
            | (refine Chain.skip (a' := ?_) rfl rfl rfl ?_ ?_
               rotate_left 1
               focus (simp only [Act.put, List.setIfInBounds_toArray, List.set_cons_succ, List.set_cons_zero]; try rfl)))
          refine Chain.end_ (fun wy hwy _ => ?_)
          go_wp2_with fail
          refine ⟨?_, by simp [intOf]; omega⟩
          repeat apply Exists.intro
          refine And.intro ?_ ?_
          rotate_left 1
          · exact ⟨rfl, HNA.out.symm, rfl, rfl, rfl, rfl, rfl, HPA.out, HNA.out.symm, HPA.out, rfl⟩
          · exact ⟨q + 2, by go_num, by omega, by rw [HBT.out], below_trans HB9.out (below_trans hwz hwy)⟩
      · obtain rfl : q = n := by omega
        have hb := HBQ.out.2
        rw [show ms.take q = ms by rw [HN.out, List.take_length]] at hb ⊢
        have hK0 : (9 * wd) ≠ 0 := by omega
        have hKw : IntKind.i64.wrap (9 * wd) = 9 * wd := by rw [IntKind.wrap_i64]; omega
        have hD := HRNG.out
        have hT : IntKind.i64.wrap (to_ - 1) = to_ - 1 := by rw [IntKind.wrap_i64]; omega
        obtain ⟨T1, hT1⟩ : ∃ T1, T1 = to_ - 1 := ⟨_, rfl⟩
        rw [← hT1] at hT hD
        obtain ⟨D, hDD⟩ : ∃ D, D = fr.tdiv (9 * wd) := ⟨_, rfl⟩
        have hDn : D.natAbs ≤ fr.natAbs := by rw [hDD]; exact Int.natAbs_tdiv_le_natAbs _ _
        have hDw : IntKind.i64.wrap D = D := by rw [IntKind.wrap_i64]; omega
        rw [← hDD] at hD
        have d1 := hDD.symm
        have d2 := hD.symm
        have t1 := hT1.symm
        obtain ⟨BT, hBT⟩ : ∃ BT, BT = Pln.bytes ms := ⟨_, rfl⟩
        rw [← hBT] at hb ⊢
        have hn1 : (1 : Int) < (q : Int) := by omega
        have hn2 : (q : Int) ≤ 20 := by omega
        have HP := Lib.hid P8
        have HB := Lib.hid B8
        have hlv1 := hlv.1
        have hlv2 := hlv.2
        clear hBT hDD hD hT1 hDn P8 B8 L8 hB
        go_upto_region 18 with fail
        refine wp_region_facts [(3, (isV (.slice pA q pc), noFact)), (22, (isV (.int .i64 fr), noFact)), (26, (isV (.int .i64 to_), noFact)), (34, (isV (.int .i64 lv), noFact)), (39, (isV (.int .i64 lv), noFact))] (by kernel_rfl) 157 (by kernel_rfl) rfl ?_ ?_ ?_
        · apply lookup_ne
          simp only [List.forall_mem_cons, List.not_mem_nil, false_imp_iff, implies_true, and_true]
          exact ⟨⟨_, rfl⟩, ⟨_, rfl⟩, ⟨_, rfl⟩, ⟨_, rfl⟩, ⟨_, rfl⟩⟩
        · apply lookup_st
          simp only [List.forall_mem_cons, List.not_mem_nil, false_imp_iff, implies_true, and_true]
          refine ⟨?_, ?_, ?_, ?_, ?_⟩
          · exact fun _ _ _ _ _ => trivial
          · exact fun _ _ _ _ _ => trivial
          · exact fun _ _ _ _ _ => trivial
          · exact fun _ _ _ _ _ => trivial
          · exact fun _ _ _ _ _ => trivial
        repeat (first
          | (refine Chain.step (v := ?_) (a' := ?_) rfl rfl rfl ?_ ?_ ?_
             rotate_left 2
             focus (intro w; go_simp; try with_reducible rfl)
             focus (simp only [Act.put, List.setIfInBounds_toArray, List.set_cons_succ, List.set_cons_zero]; try rfl))
          | (refine Chain.skip (a' := ?_) rfl rfl rfl ?_ ?_
             rotate_left 1
             focus (simp only [Act.put, List.setIfInBounds_toArray, List.set_cons_succ, List.set_cons_zero]; try rfl)))
        refine Chain.call' (a' := ?_) _ rfl rfl rfl rfl (fun wx hw hF => ?_) ?_ ?_
        rotate_left 1
        focus
          obtain ⟨g0, g1, g2, g3⟩ := Blk.c4 (HP.out.below hw); go_simp; first | exact ⟨rfl, Below.refl _ _⟩ | exact Below.refl _ _
        focus (simp only [Act.put, List.setIfInBounds_toArray, List.set_cons_succ, List.set_cons_zero]; try rfl)
        repeat (first
          | (refine Chain.step (v := ?_) (a' := ?_) rfl rfl rfl ?_ ?_ ?_
             rotate_left 2
             focus (intro w; go_simp; try with_reducible rfl)
             focus (simp only [Act.put, List.setIfInBounds_toArray, List.set_cons_succ, List.set_cons_zero]; try rfl))
          | (refine Chain.skip (a' := ?_) rfl rfl rfl ?_ ?_
             rotate_left 1
             focus (simp only [Act.put, List.setIfInBounds_toArray, List.set_cons_succ, List.set_cons_zero]; try rfl)))
        refine Chain.call' (a' := ?_) _ rfl rfl rfl rfl (fun wx hw hF => ?_) ?_ ?_
        rotate_left 1
        focus
          obtain ⟨g0, g1, g2, g3⟩ := Blk.c4 (HP.out.below hw); go_simp; first | exact ⟨rfl, Below.refl _ _⟩ | exact Below.refl _ _
        focus (simp only [Act.put, List.setIfInBounds_toArray, List.set_cons_succ, List.set_cons_zero]; try rfl)
        repeat (first
          | (refine Chain.step (v := ?_) (a' := ?_) rfl rfl rfl ?_ ?_ ?_
             rotate_left 2
             focus (intro w; go_simp; try with_reducible rfl)
             focus (simp only [Act.put, List.setIfInBounds_toArray, List.set_cons_succ, List.set_cons_zero]; try rfl))
          | (refine Chain.skip (a' := ?_) rfl rfl rfl ?_ ?_
             rotate_left 1
             focus (simp only [Act.put, List.setIfInBounds_toArray, List.set_cons_succ, List.set_cons_zero]; try rfl)))
        refine Chain.call' (a' := ?_) _ rfl rfl rfl rfl (fun wx hw hF => ?_) ?_ ?_
        rotate_left 1
        focus
          obtain ⟨g0, g1, g2, g3⟩ := Blk.c4 (HP.out.below hw); go_simp; first | exact ⟨rfl, Below.refl _ _⟩ | exact Below.refl _ _
        focus (simp only [Act.put, List.setIfInBounds_toArray, List.set_cons_succ, List.set_cons_zero]; try rfl)
        repeat (first
          | (refine Chain.step (v := ?_) (a' := ?_) rfl rfl rfl ?_ ?_ ?_
             rotate_left 2
             focus (intro w; go_simp; try with_reducible rfl)
             focus (simp only [Act.put, List.setIfInBounds_toArray, List.set_cons_succ, List.set_cons_zero]; try rfl))
          | (refine Chain.skip (a' := ?_) rfl rfl rfl ?_ ?_
             rotate_left 1
             focus (simp only [Act.put, List.setIfInBounds_toArray, List.set_cons_succ, List.set_cons_zero]; try rfl)))
        refine Chain.call' (a' := ?_) _ rfl rfl rfl rfl (fun wx hw hF => ?_) ?_ ?_
        rotate_left 1
        focus
          obtain ⟨g0, g1, g2, g3⟩ := Blk.c4 (HP.out.below hw); go_simp; first | exact ⟨rfl, Below.refl _ _⟩ | exact Below.refl _ _
        focus (simp only [Act.put, List.setIfInBounds_toArray, List.set_cons_succ, List.set_cons_zero]; try rfl)
        repeat (first
          | (refine Chain.step (v := ?_) (a' := ?_) rfl rfl rfl ?_ ?_ ?_
             rotate_left 2
             focus (intro w; go_simp; try with_reducible rfl)
             focus (simp only [Act.put, List.setIfInBounds_toArray, List.set_cons_succ, List.set_cons_zero]; try rfl))
          | (refine Chain.skip (a' := ?_) rfl rfl rfl ?_ ?_
             rotate_left 1
             focus (simp only [Act.put, List.setIfInBounds_toArray, List.set_cons_succ, List.set_cons_zero]; try rfl)))
        refine Chain.call' (a' := ?_) _ rfl rfl rfl rfl (fun wx hw hF => ?_) ?_ ?_
        rotate_left 1
        focus
          obtain ⟨g0, g1, g2, g3⟩ := Blk.c4 (HP.out.below hw); go_simp; first | exact ⟨rfl, Below.refl _ _⟩ | exact Below.refl _ _
        focus (simp only [Act.put, List.setIfInBounds_toArray, List.set_cons_succ, List.set_cons_zero]; try rfl)
        repeat (first
          | (refine Chain.step (v := ?_) (a' := ?_) rfl rfl rfl ?_ ?_ ?_
             rotate_left 2
             focus (intro w; go_simp; try with_reducible rfl)
             focus (simp only [Act.put, List.setIfInBounds_toArray, List.set_cons_succ, List.set_cons_zero]; try rfl))
          | (refine Chain.skip (a' := ?_) rfl rfl rfl ?_ ?_
             rotate_left 1
             focus (simp only [Act.put, List.setIfInBounds_toArray, List.set_cons_succ, List.set_cons_zero]; try rfl)))
        refine Chain.end_ (fun wz hwz _ => ?_)
        go_wp2_with fail
        go_ret
        exact ⟨rfl, below_trans HB.out hwz⟩

open Go.ChangeShapes Go.WideShapes Go.ChangeAt
open Go.ChangeMaps (open_string shut_string)

set_option maxRecDepth 100000 in
theorem planSound_lifted (os : Os) (started : os.Started) (H : Type) (enc : TypeId × Value → H) :
    ReturnsInHanded {} Try.checked os 5 .any (Rows.planSoundSpec.pre6 enc Try.prog Try.f5 Rows.planSoundRow.domain false) (Rows.planSoundSpec.post enc Try.prog Try.f5 false true false false) := by
  refine returnsInHanded_of_change_sized (C := Try.checked) law_own started (by kernel_rfl) Try.func5
    (ChangeSpec.witness6 (enc := enc) (C := Try.checked) false ⟨#[], #[.slice none 0 0, .int .i64 0], []⟩ 8 (by kernel_rfl) (by kernel_rfl) (by kernel_rfl) (by kernel_rfl)) ?_
  intro W base args ds gs before hval0 hW _ hsz0 _
  have hval : ∀ (j : Nat) t v, Try.f5.params[j]? = some t → args[j]? = some v → Value.okWide Try.prog W .any base t v := hval0
  have hsz : (DataW.weightsEach Try.prog (Try.f5.params.toList ++ Rows.planSoundSpec.plain.varTypes Try.prog) (ds ++ gs)).all (· ≤ reachBytes) = true := hsz0
  have hW' := hW
  obtain ⟨p, q, hA0, hV, rfl, _, _⟩ := hW
  have hA : DataW.TrodAll enc Try.prog W 0 (fun _ => true) true Try.f5.params.toList args.toList ds p := hA0
  rw [Try.params5] at hA hval hsz
  obtain ⟨v0, vs0, d0, ds0, p0, q0, hargs, rfl, rfl, h0, r0⟩ := trodAll_cons hA
  obtain ⟨v1, vs1, d1, ds1, p1, q1, rfl, rfl, rfl, h1, r1⟩ := trodAll_cons r0
  obtain ⟨rfl, rfl, rfl⟩ := trodAll_nil r1
  obtain rfl : args = #[v0, v1] := by cases args; simp_all
  obtain ⟨rfl, rfl⟩ := trodVars_none hV
  obtain ⟨a1, rfl, rfl, rfl, w1⟩ := open_int Try.underlying2 (hval 1 2 v1 rfl rfl) h1
  obtain ⟨ts0, hts0⟩ := open_ones (hval 0 22 v0 rfl rfl) h0
  refine (planSound_walk0 v0 ts0 a1 w1 W hts0).mono fun e W' ⟨he, hb⟩ => ?_
  subst he
  exact ⟨_, rfl, law_post law_laid (by intro t ht; rw [Try.params5] at ht; simp only [List.mem_cons, List.not_mem_nil, or_false] at ht; rcases ht with rfl | rfl <;> exact ⟨by kernel_rfl, of_decide_eq_true (by kernel_rfl)⟩) rfl Try.underlying4 rfl rfl hW' hb⟩

theorem planSound_holds : Rows.PlanSoundSaid :=
  OpenClaim.holds_of_wide 5 Try.f5 rfl rfl rfl rfl rfl rfl rfl ⟨rfl, rfl, rfl, rfl, rfl⟩ rfl rfl rfl rfl rfl (by kernel_rfl) Try.func5 (by kernel_rfl)
    (of_decide_eq_true (by kernel_rfl)) (by unfold Func.isWrapper; first | (rw [if_pos (by decide +kernel)]; kernel_rfl) | (rw [if_neg (by decide +kernel)]; exact ⟨rfl, rfl⟩))
    (fun os started H enc _ => planSound_lifted os started H enc)

end Go.Proofs.Ytemmgejaoegpfaa
