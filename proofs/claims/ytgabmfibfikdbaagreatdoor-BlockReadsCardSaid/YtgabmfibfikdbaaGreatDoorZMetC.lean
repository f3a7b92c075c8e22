/-
  Layer 9: the walk of Check.
-/
import Derived.Test.YtgabmfibfikdbaaGreatDoorZMetA
import Derived.Test.YtgabmfibfikdbaaGreatDoorZLib9
import Derived.BigRegion
import Derived.Test.YtgabmfibfikdbaaGreatDoorZLabU
import Derived.Test.YtgabmfibfikdbaaGreatDoorZBokC
import Derived.Test.YtgabmfibfikdbaaGreatDoorZBokF
import Derived.Test.YtgabmfibfikdbaaGreatDoorZLib12
import Derived.Test.YtgabmfibfikdbaaGreatDoorZLib24
import Derived.Deep.RegionLaw

namespace Go.Proofs.YtgabmfibfikdbaaGreatDoor
open Go.RowKit Go.Bar Go.Bar.Leb Go.Bar.Frm Go.Bar.Idt Go.Bar.Met

def sized (m : Mt) : Prop := m.fs.length = 2 ∧ m.ss.length ≤ 50
theorem not_ok {m : Mt} (h : ¬ (sane m ∧ sized m)) : ¬ Ok m := fun hk => h ⟨hk.1, hk.2.1, hk.2.2.1⟩
theorem bad_cases {m : Mt} (h : ¬ (sane m ∧ sized m)) : idOk m.id = false ∨ (idOk m.id = true ∧ m.mn < 0) ∨ (idOk m.id = true ∧ 0 ≤ m.mn ∧ m.mx ≤ m.mn) ∨ (idOk m.id = true ∧ 0 ≤ m.mn ∧ m.mn < m.mx ∧ 1099511627776 < m.mx) ∨
    (idOk m.id = true ∧ 0 ≤ m.mn ∧ m.mn < m.mx ∧ m.mx ≤ 1099511627776 ∧ m.lv < 1) ∨ (idOk m.id = true ∧ 0 ≤ m.mn ∧ m.mn < m.mx ∧ m.mx ≤ 1099511627776 ∧ 1 ≤ m.lv ∧ 9 < m.lv) ∨
    (idOk m.id = true ∧ 0 ≤ m.mn ∧ m.mn < m.mx ∧ m.mx ≤ 1099511627776 ∧ 1 ≤ m.lv ∧ m.lv ≤ 9 ∧ m.sr < 0) ∨ (idOk m.id = true ∧ 0 ≤ m.mn ∧ m.mn < m.mx ∧ m.mx ≤ 1099511627776 ∧ 1 ≤ m.lv ∧ m.lv ≤ 9 ∧ 0 ≤ m.sr ∧ m.sm < m.sr) ∨
    (idOk m.id = true ∧ 0 ≤ m.mn ∧ m.mn < m.mx ∧ m.mx ≤ 1099511627776 ∧ 1 ≤ m.lv ∧ m.lv ≤ 9 ∧ 0 ≤ m.sr ∧ m.sr ≤ m.sm ∧ 1073741824 < m.sm) ∨
    (idOk m.id = true ∧ 0 ≤ m.mn ∧ m.mn < m.mx ∧ m.mx ≤ 1099511627776 ∧ 1 ≤ m.lv ∧ m.lv ≤ 9 ∧ 0 ≤ m.sr ∧ m.sr ≤ m.sm ∧ m.sm ≤ 1073741824 ∧ m.fs.length ≠ 2) ∨
    (idOk m.id = true ∧ 0 ≤ m.mn ∧ m.mn < m.mx ∧ m.mx ≤ 1099511627776 ∧ 1 ≤ m.lv ∧ m.lv ≤ 9 ∧ 0 ≤ m.sr ∧ m.sr ≤ m.sm ∧ m.sm ≤ 1073741824 ∧ m.fs.length = 2 ∧ 50 < m.ss.length) := by
  unfold sane sized at h
  rcases hb : idOk m.id with _ | _
  · exact .inl rfl
  · rw [hb] at h
    simp only [true_and] at h
    by_cases h1 : m.mn < 0
    · exact (.inr (.inl ⟨rfl, h1⟩))
    by_cases h2 : m.mx ≤ m.mn
    · exact (.inr (.inr (.inl ⟨rfl, by omega, h2⟩)))
    by_cases h3 : 1099511627776 < m.mx
    · exact (.inr (.inr (.inr (.inl ⟨rfl, by omega, by omega, h3⟩))))
    by_cases h4 : m.lv < 1
    · exact (.inr (.inr (.inr (.inr (.inl ⟨rfl, by omega, by omega, by omega, h4⟩)))))
    by_cases h5 : 9 < m.lv
    · exact (.inr (.inr (.inr (.inr (.inr (.inl ⟨rfl, by omega, by omega, by omega, by omega, h5⟩))))))
    by_cases h6 : m.sr < 0
    · exact (.inr (.inr (.inr (.inr (.inr (.inr (.inl ⟨rfl, by omega, by omega, by omega, by omega, by omega, h6⟩)))))))
    by_cases h7 : m.sm < m.sr
    · exact (.inr (.inr (.inr (.inr (.inr (.inr (.inr (.inl ⟨rfl, by omega, by omega, by omega, by omega, by omega, by omega, h7⟩))))))))
    by_cases h8 : 1073741824 < m.sm
    · exact (.inr (.inr (.inr (.inr (.inr (.inr (.inr (.inr (.inl ⟨rfl, by omega, by omega, by omega, by omega, by omega, by omega, by omega, h8⟩)))))))))
    by_cases h9 : m.fs.length ≠ 2
    · exact (.inr (.inr (.inr (.inr (.inr (.inr (.inr (.inr (.inr (.inl ⟨rfl, by omega, by omega, by omega, by omega, by omega, by omega, by omega, by omega, h9⟩))))))))))
    exact (.inr (.inr (.inr (.inr (.inr (.inr (.inr (.inr (.inr (.inr ⟨rfl, by omega, by omega, by omega, by omega, by omega, by omega, by omega, by omega, by omega, by omega⟩))))))))))

set_option maxHeartbeats 4000000 in
set_option maxRecDepth 10000 in
theorem mcheck_bad (m : Mt) (fv sv : Value) (w : World) (hf : FlsAt w fv m.fs) (hs : SrcAt w sv m.ss) (hid : m.id.length ≤ 1000000000000) (h : ¬ (sane m ∧ sized m)) :
    Calls Tryz.prog 32 #[.agg #[.string (bs m.id), .int .i64 m.mn, .int .i64 m.mx, .int .i64 m.lv, .int .i64 m.sr, .int .i64 m.sm, fv, sv]] w (RetBelow w (.int .i64 3)) := by
  obtain ⟨A, c, rfl, hlc, hcm⟩ := hf.shape
  obtain ⟨A2, c2, rfl, hlc2, hcm2⟩ := hs.shape
  have hi := isID_any m.id
  have hc := bad_cases h
  obtain ⟨id, mn, mx, lv, sr, sm, fs, ss⟩ := m
  simp only at *
  clear h
  have hfl : fs.length = 2 ∨ fs.length ≠ 2 := by omega
  rcases hc with h0 | ⟨h0, h1⟩ | ⟨h0, h1, h2⟩ | ⟨h0, h1, h2, h3⟩ | ⟨h0, h1, h2, h3, h4⟩ | ⟨h0, h1, h2, h3, h4, h5⟩ | ⟨h0, h1, h2, h3, h4, h5, h6⟩ | ⟨h0, h1, h2, h3, h4, h5, h6, h7⟩ | ⟨h0, h1, h2, h3, h4, h5, h6, h7, h8⟩ | ⟨h0, h1, h2, h3, h4, h5, h6, h7, h8, h9⟩ | ⟨h0, h1, h2, h3, h4, h5, h6, h7, h8, h9, h10⟩
  case inr.inr.inr.inr.inr.inr.inr.inr.inr.inl =>
    rw [h0] at hi
    have HI := Lib.hid hi
    have hb : ((fs.length : Int) != 2) = true := by rw [bne_iff_ne]; omega
    clear hi h0 h9 hfl
    go_enter Tryz.func32, Tryz.ntmps32
    go_wp2_with fail
    refine (HI.out _ hid).mono ?_
    rintro e w' ⟨rfl, rfl⟩
    go_wp2_with fail
    go_ret
    exact ⟨rfl, (Below.refl _ _).alloc (Nat.le_refl _) _⟩
  case inr.inr.inr.inr.inr.inr.inr.inr.inr.inr =>
    rw [h0] at hi
    have HI := Lib.hid hi
    have hb : ((fs.length : Int) != 2) = false := by rw [bne_eq_false_iff_eq]; omega
    clear hi h0 h9 hfl
    go_enter Tryz.func32, Tryz.ntmps32
    go_wp2_with fail
    refine (HI.out _ hid).mono ?_
    rintro e w' ⟨rfl, rfl⟩
    go_wp2_with fail
    go_ret
    exact ⟨rfl, (Below.refl _ _).alloc (Nat.le_refl _) _⟩
  all_goals
    rw [h0] at hi
    have HI := Lib.hid hi
    clear hi h0 hfl
    go_enter Tryz.func32, Tryz.ntmps32
    go_wp2_with fail
    refine (HI.out _ hid).mono ?_
    rintro e w' ⟨rfl, rfl⟩
    go_wp2_with fail
    go_ret
    exact ⟨rfl, (Below.refl _ _).alloc (Nat.le_refl _) _⟩

theorem mbelow_alloc1 (w : World) (o : Obj) : Below w.heap.size w (w.alloc o) := (Below.refl _ _).alloc (Nat.le_refl _) o
theorem below_ad2 (w : World) (a b : Obj) : Below w.heap.size w ((w.alloc a).alloc b).drew := (below_trans (mbelow_alloc1 w a) (mbelow_alloc1 _ b)).drew'
theorem chk_file {m : Mt} {k : Nat} (hk : k < 2) (h : ¬ fileOk m k) : chk m = 3 := chk_no (fun h' => h (h'.2.2.2.1 k hk))
theorem chk_src {m : Mt} {k : Nat} (hk : k < m.ss.length) (h : ¬ good m k) : chk m = 3 := chk_no (fun h' => h (h'.2.2.2.2 k hk))

set_option maxHeartbeats 8000000 in
set_option maxRecDepth 10000 in
theorem mcheck_good (m : Mt) (fv sv : Value) (w : World) (hf : FlsAt w fv m.fs) (hs : SrcAt w sv m.ss) (hid : m.id.length ≤ 1000000000000) (hsl : ∀ s ∈ m.ss, s.length ≤ 1000000000000) (hsane : sane m) (hsized : sized m) :
    Calls Tryz.prog 32 #[.agg #[.string (bs m.id), .int .i64 m.mn, .int .i64 m.mx, .int .i64 m.lv, .int .i64 m.sr, .int .i64 m.sm, fv, sv]] w (RetBelow w (.int .i64 (chk m))) := by
  have hfl := hsized.1
  obtain ⟨A, c, hfv, hlc, hcm⟩ := hf.shape
  rw [hfl] at hfv hlc
  subst hfv
  obtain ⟨A2, c2, rfl, hlc2, hcm2⟩ := hs.shape
  obtain ⟨Z, hZ⟩ : ∃ Z, Z = chk m := ⟨_, rfl⟩
  rw [← hZ]
  have HF := Lib.hid (fun k (hk : k < 2) (h : ¬ fileOk m k) => hZ.trans (chk_file hk h))
  have HS := Lib.hid (fun k (hk : k < m.ss.length) (h : ¬ good m k) => hZ.trans (chk_src hk h))
  have HY := Lib.hid (fun (h : Ok m) => hZ.trans (chk_ok h))
  clear hZ
  have hss := Lib.hid (And.intro hsane hsized)
  obtain ⟨hi0, h1, h2, h3, h4, h5, h6, h7, h8⟩ := hsane
  obtain ⟨h9, h10⟩ := hsized
  have hi := isID_any m.id
  rw [hi0] at hi
  have HI := Lib.hid hi
  have h9 := Lib.hid h9
  clear hi hi0 hfl
  go_enter Tryz.func32, Tryz.ntmps32
  go_wp2_with fail
  refine (HI.out _ hid).mono ?_
  rintro e w' ⟨rfl, rfl⟩
  go_wp2_with fail
  clear h1 h2 h3 h4 h5 h6 h7 h8
  obtain ⟨BX, hBX⟩ : ∃ BX, BX = w.alloc (.cells #[.string (bs m.id), .int .i64 m.mn, .int .i64 m.mx, .int .i64 m.lv, .int .i64 m.sr, .int .i64 m.sm, .slice A 2 c, .slice A2 m.ss.length c2] 53) := ⟨_, rfl⟩
  have hB0 : Below w.heap.size w BX := by rw [hBX]; exact (Below.refl _ _).alloc (Nat.le_refl _) _
  have hblk : Blk BX w.heap.size 53 #[.string (bs m.id), .int .i64 m.mn, .int .i64 m.mx, .int .i64 m.lv, .int .i64 m.sr, .int .i64 m.sm, .slice A 2 c, .slice A2 m.ss.length c2] := by rw [hBX]; exact Blk.new _ _ _
  rw [← hBX]
  clear hBX
  go_loopw [72] (fun i wr => ∃ k : Nat, k ≤ 2 ∧ i = .int .i64 k ∧ Below BX.heap.size BX wr ∧ Hid (∀ j, j < k → fileOk m j)) (fun i _ => 2 - (intOf i).toNat)
  case atStart => exact ⟨0, Nat.zero_le _, rfl, Below.refl _ _, Lib.hid (fun j hj => absurd hj (Nat.not_lt_zero j))⟩
  case round =>
    obtain ⟨k, hk, rfl, hbl, hok⟩ := hrel
    by_cases hgo : k < 2
    · obtain ⟨f, hfk⟩ : ∃ f, m.fs[k]? = some f := ⟨_, List.getElem?_eq_getElem (by rw [h9.out]; exact hgo)⟩
      have hfd : fileOk m k ↔ (f.name = (if k = 0 then chunksN else indexN) ∧ 0 ≤ f.size ∧ f.size ≤ 1048576) := by unfold fileOk; rw [List.getD_eq_getElem?_getD, hfk]; rfl
      obtain ⟨b, o, rfl, hbb, f0, f1, f2⟩ := (hf.below (below_trans hB0 hbl)).at_ hfk
      have hk01 : k = 0 ∨ k = 1 := by omega
      have HFD := Lib.hid hfd
      clear hfk hfd
      obtain ⟨nm, sz, su⟩ := f
      simp only at HFD f0 f1 f2
      rcases hk01 with rfl | rfl
      · have f0 : wr.cell? ⟨b, o, none⟩ = some (.string (bs nm)) := f0
        have f1 : wr.cell? ⟨b, o + 1, none⟩ = some (.int .i64 sz) := f1
        have f2 : wr.cell? ⟨b, o + 2, none⟩ = some (.int .u32 su) := f2
        by_cases hn : nm = [99, 104, 117, 110, 107, 115]
        · have hsz3 : sz < 0 ∨ (0 ≤ sz ∧ 1048576 < sz) ∨ (0 ≤ sz ∧ sz ≤ 1048576) := by omega
          rcases hsz3 with h1 | ⟨h1, h2⟩ | ⟨h1, h2⟩
          · have HZ := Lib.hid (HF.out 0 (by omega) (fun h => by have := HFD.out.1 h; omega))
            subst hn
            go_wp2_with fail
            go_region
            go_wp2_with fail
            go_ret
            exact ⟨by rw [HZ.out]; rfl, below_trans (below_trans hB0 hbl) (below_ad2 _ _ _)⟩
          · have HZ := Lib.hid (HF.out 0 (by omega) (fun h => by have := HFD.out.1 h; omega))
            subst hn
            have hd : decide (sz < 0) = false := decide_eq_false (by omega)
            have hd2 : decide (1048576 < sz) = true := decide_eq_true h2
            go_wp2_with fail
            go_region
            go_wp2_with fail
            go_ret
            exact ⟨by rw [HZ.out]; rfl, below_trans (below_trans hB0 hbl) (below_ad2 _ _ _)⟩
          · have hd : decide (sz < 0) = false := decide_eq_false (by omega)
            have hd2 : decide (1048576 < sz) = false := decide_eq_false (by omega)
            have hok2 : Hid (∀ j, j < 0 + 1 → fileOk m j) := Lib.hid (fun j hj => by
              by_cases hjk : j < 0
              · exact hok.out j hjk
              · obtain rfl : j = 0 := by omega
                exact HFD.out.2 ⟨hn, h1, h2⟩)
            subst hn
            go_wp2_with fail
            go_region
            go_wp2_with fail
            go_roundw
            case rel => exact ⟨0 + 1, by omega, by go_num, below_trans hbl (below_ad2 _ _ _), hok2⟩
            case measure => simp [intOf]
        · have HZ := Lib.hid (HF.out 0 (by omega) (fun h => hn (HFD.out.1 h).1))
          have hne : (nm == [99, 104, 117, 110, 107, 115]) = false := by rw [beq_eq_false_iff_ne]; exact hn
          have hne2 : (nm != [99, 104, 117, 110, 107, 115]) = true := by rw [bne_iff_ne]; exact hn
          clear hn
          go_wp2_with fail
          go_region
          go_wp2_with fail
          go_ret
          exact ⟨by rw [HZ.out]; rfl, below_trans (below_trans hB0 hbl) (below_ad2 _ _ _)⟩
      · have f0 : wr.cell? ⟨b, o + 3, none⟩ = some (.string (bs nm)) := f0
        have f1 : wr.cell? ⟨b, o + 3 + 1, none⟩ = some (.int .i64 sz) := f1
        have f2 : wr.cell? ⟨b, o + 3 + 2, none⟩ = some (.int .u32 su) := f2
        by_cases hn : nm = [105, 110, 100, 101, 120]
        · have hsz3 : sz < 0 ∨ (0 ≤ sz ∧ 1048576 < sz) ∨ (0 ≤ sz ∧ sz ≤ 1048576) := by omega
          rcases hsz3 with h1 | ⟨h1, h2⟩ | ⟨h1, h2⟩
          · have HZ := Lib.hid (HF.out 1 (by omega) (fun h => by have := HFD.out.1 h; omega))
            subst hn
            go_wp2_with fail
            go_region
            go_wp2_with fail
            go_ret
            exact ⟨by rw [HZ.out]; rfl, below_trans (below_trans hB0 hbl) (below_ad2 _ _ _)⟩
          · have HZ := Lib.hid (HF.out 1 (by omega) (fun h => by have := HFD.out.1 h; omega))
            subst hn
            have hd : decide (sz < 0) = false := decide_eq_false (by omega)
            have hd2 : decide (1048576 < sz) = true := decide_eq_true h2
            go_wp2_with fail
            go_region
            go_wp2_with fail
            go_ret
            exact ⟨by rw [HZ.out]; rfl, below_trans (below_trans hB0 hbl) (below_ad2 _ _ _)⟩
          · have hd : decide (sz < 0) = false := decide_eq_false (by omega)
            have hd2 : decide (1048576 < sz) = false := decide_eq_false (by omega)
            have hok2 : Hid (∀ j, j < 1 + 1 → fileOk m j) := Lib.hid (fun j hj => by
              by_cases hjk : j < 1
              · exact hok.out j hjk
              · obtain rfl : j = 1 := by omega
                exact HFD.out.2 ⟨hn, h1, h2⟩)
            subst hn
            go_wp2_with fail
            go_region
            go_wp2_with fail
            go_roundw
            case rel => exact ⟨1 + 1, by omega, by go_num, below_trans hbl (below_ad2 _ _ _), hok2⟩
            case measure => simp [intOf]
        · have HZ := Lib.hid (HF.out 1 (by omega) (fun h => hn (HFD.out.1 h).1))
          have hne : (nm == [105, 110, 100, 101, 120]) = false := by rw [beq_eq_false_iff_ne]; exact hn
          have hne2 : (nm != [105, 110, 100, 101, 120]) = true := by rw [bne_iff_ne]; exact hn
          clear hn
          go_wp2_with fail
          go_region
          go_wp2_with fail
          go_ret
          exact ⟨by rw [HZ.out]; rfl, below_trans (below_trans hB0 hbl) (below_ad2 _ _ _)⟩
    · obtain rfl : k = 2 := by omega
      clear hgo hk
      obtain ⟨wo, rfl⟩ : ∃ wo : World, wo = wr := ⟨_, rfl⟩
      have hB1 := below_trans hB0 hbl
      have hblk := hblk.below hbl
      clear hB0 hbl
      have c7 : wo.cell? ⟨w.heap.size, 7, none⟩ = some (.slice A2 m.ss.length c2) := hblk.cell (i := 7) rfl
      go_wp2_with fail
      clear c7
      go_loop [98] (fun i => ∃ k : Nat, k ≤ m.ss.length ∧ i = .int .i64 k ∧ Hid (∀ j, j < k → good m j)) (fun i => m.ss.length - (intOf i).toNat)
      case atStart => exact ⟨0, Nat.zero_le _, rfl, Lib.hid (fun j hj => absurd hj (Nat.not_lt_zero j))⟩
      case round =>
        obtain ⟨k, hk, rfl, hgd⟩ := hrel
        by_cases hgo : k < m.ss.length
        · obtain ⟨s, hsk⟩ : ∃ s, m.ss[k]? = some s := ⟨_, List.getElem?_eq_getElem hgo⟩
          have hsk2 := hsl s (List.mem_of_getElem? hsk)
          have hsd : m.ss.getD k [] = s := by rw [List.getD_eq_getElem?_getD, hsk]; rfl
          have hgk : good m k ↔ (idOk s = true ∧ s ≠ m.id ∧ Op.bytesLess (prev m.ss k) s = true) := by unfold good; rw [hsd]
          obtain ⟨b, o, rfl, hbb, f0⟩ := (hs.below hB1).at_ hsk
          have c0 : wo.cell? ⟨w.heap.size, 0, none⟩ = some (.string (bs m.id)) := hblk.cell (i := 0) rfl
          have c7 : wo.cell? ⟨w.heap.size, 7, none⟩ = some (.slice (some ⟨b, o, none⟩) m.ss.length c2) := hblk.cell (i := 7) rfl
          have hi := isID_any s
          have HGK := Lib.hid hgk
          have HSK := Lib.hid hsk
          clear hsd hgk hsk
          rcases hid1 : idOk s with _ | _
          · have HZ := Lib.hid (HS.out k hgo (fun h => by have := (HGK.out.1 h).1; rw [hid1] at this; cases this))
            rw [hid1] at hi
            have HI2 := Lib.hid hi
            clear hi hid1
            go_wp2_with fail
            refine (HI2.out _ hsk2).mono ?_
            rintro e w' ⟨rfl, rfl⟩
            go_wp2_with fail
            go_ret
            exact ⟨by rw [HZ.out]; rfl, hB1⟩
          · rw [hid1] at hi
            have HI2 := Lib.hid hi
            have hid1 := Lib.hid hid1
            clear hi
            rcases heq : (s == m.id) with _ | _
            · have hne : s ≠ m.id := by rw [beq_eq_false_iff_ne] at heq; exact heq
              have hne := Lib.hid hne
              rcases k with _ | p
              · have hg : good m 0 := HGK.out.2 ⟨hid1.out, hne.out, by
                  have hl := idOk_len hid1.out
                  cases s with
                  | nil => simp at hl
                  | cons x y => rfl⟩
                have hg2 : Hid (∀ j, j < 0 + 1 → good m j) := Lib.hid (fun j hj => by obtain rfl : j = 0 := (by omega); exact hg)
                clear hg
                have f0 : wo.cell? ⟨b, o, none⟩ = some (.string (bs s)) := f0
                go_wp2_with fail
                refine (HI2.out _ hsk2).mono ?_
                rintro e w' ⟨rfl, rfl⟩
                go_wp2_with fail
                go_round
                case rel =>
                  refine ⟨trivial, ?_⟩
                  repeat apply Exists.intro
                  refine ⟨?_, rfl⟩
                  exact ⟨0 + 1, by omega, by go_num, hg2⟩
                case measure => simp [intOf]; omega
              · obtain ⟨y, hy⟩ : ∃ y, m.ss[p]? = some y := ⟨_, List.getElem?_eq_getElem (by omega)⟩
                have hpv : prev m.ss (p + 1) = y := by unfold prev; rw [if_neg (by omega), Nat.add_sub_cancel, List.getD_eq_getElem?_getD, hy]; rfl
                obtain ⟨b', o', he, _, f1⟩ := (hs.below hB1).at_ hy
                injection he with he
                injection he with he1 he2 _
                subst he1; subst he2
                have hp1 : (0 : Int) ≤ (p : Int) := by omega
                have hp2 : (p : Int) < m.ss.length := by omega
                rw [hpv] at HGK
                clear hy hpv
                rcases hlt : Op.bytesLess y s with _ | _
                · have HZ := Lib.hid (HS.out (p + 1) hgo (fun h => by have := (HGK.out.1 h).2.2; rw [hlt] at this; cases this))
                  go_wp2_with fail
                  refine (HI2.out _ hsk2).mono ?_
                  rintro e w' ⟨rfl, rfl⟩
                  go_wp2_with fail
                  go_ret
                  exact ⟨by rw [HZ.out]; rfl, hB1⟩
                · have hg := Lib.hid (HGK.out.2 ⟨hid1.out, hne.out, hlt⟩)
                  have hg2 : Hid (∀ j, j < p + 1 + 1 → good m j) := Lib.hid (fun j hj => by
                    by_cases hj2 : j < p + 1
                    · exact hgd.out j hj2
                    · obtain rfl : j = p + 1 := by omega
                      exact hg.out)
                  go_wp2_with fail
                  refine (HI2.out _ hsk2).mono ?_
                  rintro e w' ⟨rfl, rfl⟩
                  go_wp2_with fail
                  go_round
                  case rel =>
                    refine ⟨trivial, ?_⟩
                    repeat apply Exists.intro
                    refine ⟨?_, rfl⟩
                    exact ⟨p + 1 + 1, by omega, by go_num, hg2⟩
                  case measure => simp [intOf]; omega
            · have HZ := Lib.hid (HS.out k hgo (fun h => by have := (HGK.out.1 h).2.1; rw [beq_iff_eq] at heq; exact this heq))
              go_wp2_with fail
              refine (HI2.out _ hsk2).mono ?_
              rintro e w' ⟨rfl, rfl⟩
              go_wp2_with fail
              go_ret
              exact ⟨by rw [HZ.out]; rfl, hB1⟩
        · have HZ := Lib.hid (HY.out ⟨hss.out.1, h9.out, h10, fun i hi => hok.out i hi, fun i hi => hgd.out i (by omega)⟩)
          go_wp2_with fail
          go_ret
          exact ⟨by rw [HZ.out]; rfl, hB1⟩

theorem mcheck_any (m : Mt) (fv sv : Value) (w : World) (hf : FlsAt w fv m.fs) (hs : SrcAt w sv m.ss) (hid : m.id.length ≤ 1000000000000) (hsl : ∀ s ∈ m.ss, s.length ≤ 1000000000000) :
    Calls Tryz.prog 32 #[.agg #[.string (bs m.id), .int .i64 m.mn, .int .i64 m.mx, .int .i64 m.lv, .int .i64 m.sr, .int .i64 m.sm, fv, sv]] w (RetBelow w (.int .i64 (chk m))) := by
  by_cases h : sane m ∧ sized m
  · exact mcheck_good m fv sv w hf hs hid hsl h.1 h.2
  · rw [chk_no (not_ok h)]
    exact mcheck_bad m fv sv w hf hs hid h

end Go.Proofs.YtgabmfibfikdbaaGreatDoor

/-
  Layer 16: what Build leaves.
-/
namespace Go.Proofs.YtgabmfibfikdbaaGreatDoor
open Go.RowKit Go.Bar Go.Bar.Leb Go.Bar.Frm Go.Bar.Lab Go.Bar.Xor Go.Bar.Mrg Go.Bar.Met Go.Bar.Bok

def filesV (m : Mt) (F : Option Addr) (fc : Nat) (S : Option Addr) (sc : Nat) (C I : List UInt8) : Value :=
  .agg #[.string (bs m.id), .int .i64 m.mn, .int .i64 m.mx, .int .i64 m.lv, .int .i64 m.sr, .int .i64 m.sm, .slice F m.fs.length fc, .slice S m.ss.length sc, .string (bs C), .string (bs I)]
def filesZ : Value := .agg #[.string (bs []), .int .i64 0, .int .i64 0, .int .i64 0, .int .i64 0, .int .i64 0, .slice none 0 0, .slice none 0 0, .string (bs []), .string (bs [])]
abbrev cF0 : Array Value := #[.string { data := #[] }, .int .i64 0, .int .i64 0, .int .i64 0, .int .i64 0, .int .i64 0, .slice none 0 0, .slice none 0 0, .string { data := #[] }, .string { data := #[] }]
def RetBd (w : World) (id : List UInt8) (a b lv : Int) (ss : List (List UInt8)) (R : List Row) (e : Ending) (w' : World) : Prop :=
  (BdOk id a b lv ss R ∧ ∃ F fc S sc, e = .returned (.tuple #[filesV (bMt id a b lv ss R) F fc S sc (bCh R) (idxB (bEn R 0)), .int .i64 0]) ∧ Buf w' 86 3 (.slice F 2 fc) 2 (fcs (bMt id a b lv ss R).fs) ∧ Buf w' 9 1 (.slice S ss.length sc) ss.length (scs ss) ∧ Below w.heap.size w w') ∨
  (¬ BdOk id a b lv ss R ∧ e = .returned (.tuple #[filesZ, .int .i64 1]) ∧ Below w.heap.size w w')
theorem first_at {l : List Sm} {y : Sm} (h : l[0]? = some y) : first l = y.1 := by
  cases l with
  | nil => simp at h
  | cons x r => injection h with h; rw [← h]; rfl
theorem last_at {l : List Sm} {q : Nat} {z : Sm} (hl : l.length = q + 1) (h : l[q]? = some z) : last l = z.1 := by
  unfold last
  rw [List.getLastD_eq_getLast?, List.getLast?_eq_getElem?, hl]
  show ((l[q]?).getD (0, 0)).1 = z.1
  rw [h]; rfl
theorem bCh_le (R : List Row) (k : Nat) : (bCh (R.take k)).length ≤ (bCh R).length := by
  conv => rhs; rw [← List.take_append_drop k R, bCh_append, List.length_append]
  omega
theorem take_snoc {R : List Row} {k : Nat} {r : Row} (h : R[k]? = some r) : R.take (k + 1) = R.take k ++ [r] := by rw [List.take_add_one, h]; rfl
def FinBd (w : World) (X : Nat) (bv : Value) (ys : List UInt8) (L : List En) (vs : Nat → Value) (w' : World) : Prop :=
  ∃ es, DEs w w w w' 45 128 (vs 23) es ∧ es.map plE = L ∧ NBuf w w' 5 1 bv ys.length (bcs ys) ∧ Blk w' X 64 cF0 ∧ Blk w' (X + 1) 64 cF0
theorem fin_of {w w6 wx w' : World} {X : Nat} {bv ov v' : Value} {ys : List UInt8} {L : List En} {es : List Ev} {ls : List Pr} {A3 : Option Addr} {c3 : Nat} {fr n mn mx : Int} (hE : DEs w w w wx 45 128 ov es) (hN : NBuf w wx 5 1 bv ys.length (bcs ys)) (hX : Blk wx X 64 cF0) (hY : Blk wx (X + 1) 64 cF0)
    (hb0 : Below w.heap.size w wx) (f3 : FBuf w6 wx 128 2 (.slice A3 ls.length c3) ls.length (pcs ls)) (hs : w.heap.size ≤ w6.heap.size) (hb : Buf w' 45 5 v' (es.length + 1) (ecs es ++ encE ⟨ls, A3, c3, fr, n, mn, mx⟩)) (ha : Ap wx w' 5 ov) (hg : Grew wx ov v') (hL : (es ++ [(⟨ls, A3, c3, fr, n, mn, mx⟩ : Ev)]).map plE = L) :
    ∃ es, DEs w w w w' 45 128 v' es ∧ es.map plE = L ∧ NBuf w w' 5 1 bv ys.length (bcs ys) ∧ Blk w' X 64 cF0 ∧ Blk w' (X + 1) 64 cF0 :=
  ⟨es ++ [⟨ls, A3, c3, fr, n, mn, mx⟩], hE.snoc (.inr ⟨f3.buf, hb0, fun k hk => Nat.le_trans hs (f3.new k hk)⟩) (hE.n.step hb ha hg) ha (by decide), hL, hN.keep hE.n ha (by decide), hX.ap hE.n.buf ha (by decide), hY.ap hE.n.buf ha (by decide)⟩
theorem DEs.fr_ne {B W0 W w w' : World} {T Tp T' : TypeId} {v : Value} {l : List Ev} {X : Nat} {cur : Array Value} (h : DEs B W0 W w T Tp v l) (hf : Fr (fun k _ => k = X) w w') (hb : Blk w X T' cur) (hne : Tp ≠ T') (hne2 : T ≠ T') (hX : W.heap.size ≤ X) : DEs B W0 W w' T Tp v l :=
  ⟨h.n.fr_ne hb hne2 hX hf, h.b, fun x hx => (h.d x hx).imp id fun h' => h'.fr_ne hb hne (Nat.le_trans h.b.size hX) hf⟩
theorem encE_oneC (x : Ev) : ∀ u ∈ encE x, u.oneCell' = true := fun u hu => by
  simp [encE] at hu
  rcases hu with rfl | rfl | rfl | rfl | rfl <;> simp [Value.oneCell']

theorem Blk.st8a {w : World} {B : Nat} {T : TypeId} {v0 v1 v2 v3 v4 v5 v6 v7 a0 a1 a2 a3 a4 a5 a6 a7 a8 a9 : Value} (h : Blk w B T #[a0, a1, a2, a3, a4, a5, a6, a7, a8, a9]) : Blk (st8 w B v0 v1 v2 v3 v4 v5 v6 v7) B T #[v0, v1, v2, v3, v4, v5, v6, v7, a8, a9] := by
  have := ((((((((h.set 0 v0).set 1 v1).set 2 v2).set 3 v3).set 4 v4).set 5 v5).set 6 v6).set 7 v7)
  unfold Go.Bar.st8
  simpa using this
theorem fr0 {w : World} {B : Nat} : Fr (fun k _ => k = B) w w := Fr.of_below (Below.refl _ _)
theorem fr1 {w w' : World} {B : Nat} (h : Fr (fun k _ => k = B) w w') (i : Nat) (u : Value) : Fr (fun k _ => k = B) w (w'.setCell ⟨B, i, none⟩ u) := h.setCell (k := B) (i := i) (fun _ => rfl) u
theorem fr_st8 {w : World} {B : Nat} {v0 v1 v2 v3 v4 v5 v6 v7 : Value} : Fr (fun k _ => k = B) w (st8 w B v0 v1 v2 v3 v4 v5 v6 v7) := by
  unfold Go.Bar.st8
  exact fr1 (fr1 (fr1 (fr1 (fr1 (fr1 (fr1 (fr1 fr0 0 _) 1 _) 2 _) 3 _) 4 _) 5 _) 6 _) 7 _
def FinBm (w : World) (X : Nat) (fs : List Fl) (S : Value) (ss : List (List UInt8)) (v0 v1 v2 v3 v4 v5 v7 v8 v9 : Value) (vs : Nat → Value) (w' : World) : Prop :=
  ∃ g, vs 6 = .slice (some ⟨g, 0, none⟩) 2 2 ∧ Buf w' 86 3 (.slice (some ⟨g, 0, none⟩) 2 2) 2 (fcs fs) ∧ Buf w' 9 1 S ss.length (scs ss) ∧ Blk w' X 64 cF0 ∧ Blk w' (X + 1) 64 #[v0, v1, v2, v3, v4, v5, .slice (some ⟨g, 0, none⟩) 2 2, v7, v8, v9] ∧ Below w.heap.size w w'
theorem FinBm.of {w wA wx : World} {X g : Nat} {fs : List Fl} {S : Value} {ss : List (List UInt8)} {v0 v1 v2 v3 v4 v5 v6 v7 v8 v9 : Value} {vs : Nat → Value} (q6 : vs 6 = .slice (some ⟨g, 0, none⟩) 2 2) (f6 : FBuf wA wx 86 3 (.slice (some ⟨g, 0, none⟩) 2 2) 2 (fcs fs)) (hS : Buf wx 9 1 S ss.length (scs ss))
    (hX : Blk wx X 64 cF0) (hY : Blk wx (X + 1) 64 #[v0, v1, v2, v3, v4, v5, v6, v7, v8, v9]) (hB : Below w.heap.size w wx) (hXw : w.heap.size ≤ X + 1) (u : Value) :
    FinBm w X fs S ss v0 v1 v2 v3 v4 v5 v7 v8 v9 (Dv.updV vs 9 u) (wx.setCell ⟨X + 1, 6, none⟩ (.slice (some ⟨g, 0, none⟩) 2 2)) := by
  have hf : Fr (fun k _ => k = X + 1) wx (wx.setCell ⟨X + 1, 6, none⟩ (.slice (some ⟨g, 0, none⟩) 2 2)) := fr1 fr0 6 _
  refine ⟨g, ?_, ?_, ?_, hX.fr hf (fun i (e : X = X + 1) => by omega), by simpa using hY.set 6 (.slice (some ⟨g, 0, none⟩) 2 2), hB.setCell (p := ⟨X + 1, 6, none⟩) hXw _⟩
  · rw [Dv.updV_ne _ _ (by decide), q6]
  · exact f6.buf.fr_ne hY (by decide) hf
  · exact hS.fr_ne hY (by decide) hf

end Go.Proofs.YtgabmfibfikdbaaGreatDoor
