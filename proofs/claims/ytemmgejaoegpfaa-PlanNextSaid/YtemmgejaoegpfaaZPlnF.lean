/-
  Layer 20: which blocks are to be marked.
-/
import Derived.Test.YtemmgejaoegpfaaZPlnC

namespace Go.Proofs.Ytemmgejaoegpfaa
open Go.RowKit Go.Bar Go.Bar.Leb Go.Bar.Frm Go.Bar.Idt Go.Bar.Met Go.Bar.Pln

theorem unmarked_take {l : List Mt} {mk : Marks} {k : Nat} {m : Mt} (h : l[k]? = some m) : unmarked (l.take (k + 1)) mk = unmarked (l.take k) mk ++ (if (mk m.id).isNone then [m] else []) := filter_take (p := fun x => (mk x.id).isNone) h
theorem srcs_unmarked_len {l : List Mt} (mk : Marks) (h : Lst l) (k : Nat) : (srcs (unmarked (l.take k) mk)).length ≤ 1000000 := by
  have h1 : (srcs (unmarked (l.take k) mk)).length ≤ (srcs (l.take k)).length := by
    have hh : ∀ l' : List Mt, (srcs (l'.filter (fun x => (mk x.id).isNone))).length ≤ (srcs l').length := by
      intro l'
      induction l' with
      | nil => simp
      | cons m r ih =>
        unfold srcs at ih ⊢
        rw [List.filter_cons]
        split
        · rw [List.flatMap_cons, List.flatMap_cons, List.length_append, List.length_append]; omega
        · rw [List.flatMap_cons, List.length_append]; omega
    exact hh _
  exact Nat.le_trans h1 (srcs_len h k)
/-- texts in a buffer of the call's own -/
def RetSs (w : World) (l : List (List UInt8)) (e : Ending) (w' : World) : Prop := ∃ v, e = .returned v ∧ NBuf w w' 9 1 v l.length (scs l)
theorem str_ty : ElemTy Try.prog 43 9 (.string ByteArray.empty) 1 16 :=
  ⟨Try.underlying43, info_parts (show (Try.prog.info? 9).map (fun i => (i.zero, i.size, i.bytes)) = some (some (.string ByteArray.empty), 1, 16) by kernel_rfl), rfl⟩

set_option maxHeartbeats 8000000 in
set_option maxRecDepth 10000 in
theorem toMark_any (at_ : Int) (mv : Value) (l : List Mt) (b nm : Nat) (mk : Marks) (w : World) (h : MsAt w w mv l) (hm : Mp w b nm mk) (hl : Lst l) :
    Calls Try.prog 12 #[.agg #[.int .i64 at_, mv, .map (some b)]] w (RetSs w (toMark l mk)) := by
  obtain ⟨A, c, rfl, hlc, hcm⟩ := h.shape
  unfold maxLen at hcm
  have hlen := hl.len
  have HS := Lib.hid (srcs_unmarked_len mk hl)
  have HSM := Lib.hid hl.sm
  obtain ⟨GF, hGF⟩ : ∃ GF, GF = cntF (srcs (unmarked l mk)) := ⟨_, rfl⟩
  have HGF := Lib.hid hGF
  have hG : ∀ m, (GF m).getD 0 = (gone (unmarked l mk) m : Int) := fun m => by rw [hGF]; exact cntF_getD _ _
  have HG := Lib.hid hG
  obtain ⟨p, hp⟩ : ∃ p : Mt → Bool, p = fun x => decide (0 < gone (unmarked l mk) x.id) && (mk x.id).isNone := ⟨_, rfl⟩
  have htm : toMark l mk = (l.filter p).map (·.id) := by rw [hp]; rfl
  have hp2 : ∀ m, p m = (decide (0 < gone (unmarked l mk) m.id) && (mk m.id).isNone) := fun m => by rw [hp]
  have HTM := Lib.hid htm
  have HP := Lib.hid hp2
  clear hl hGF hG hp htm hp2
  have hmm := @run_makeMap Try.prog
  go_enter Try.func12, Try.ntmps12
  go_wp2_with fail
  have hm0 := MpAt.made (w.alloc (.cells #[.int .i64 at_, .slice A l.length c, .map (some b)] 26)) Try.prog 9 3
  have X0 := (Blk.new w #[.int .i64 at_, .slice A l.length c, .map (some b)] 26).alloc (.map #[] 0)
  have hb0 := below_trans (below_al w (.cells #[.int .i64 at_, .slice A l.length c, .map (some b)] 26)) (below_al _ (.map #[] 0))
  rw [show (w.alloc (.cells #[.int .i64 at_, .slice A l.length c, .map (some b)] 26)).heap.size = w.heap.size + 1 by simp] at hm0
  obtain ⟨w1, hw1⟩ : ∃ w1, w1 = (w.alloc (.cells #[.int .i64 at_, .slice A l.length c, .map (some b)] 26)).alloc (.map #[] 0) := ⟨_, rfl⟩
  rw [← hw1] at hm0 hb0 X0 ⊢
  clear hw1 hmm
  go_loopw [19] (fun i wr => ∃ k n : Nat, i = .int .i64 k ∧ k ≤ l.length ∧ n = (srcs (unmarked (l.take k) mk)).length ∧ Mp wr (w.heap.size + 1) n (cntF (srcs (unmarked (l.take k) mk))) ∧ Blk wr w.heap.size 26 #[.int .i64 at_, .slice A l.length c, .map (some b)] ∧ Below w.heap.size w wr) (fun i _ => l.length - (intOf i).toNat)
  case atStart => exact ⟨0, 0, rfl, Nat.zero_le _, by simp [srcs, unmarked], by rw [List.take_zero, show srcs (unmarked [] mk) = [] from rfl, cntF_nil]; exact hm0, X0, hb0⟩
  case round =>
    obtain ⟨k, n, rfl, hk, hn, hM, hX, hB⟩ := hrel
    clear hm0 hb0 X0
    by_cases hgo : k < l.length
    · obtain ⟨m, hmk⟩ : ∃ m, l[k]? = some m := ⟨_, List.getElem?_eq_getElem hgo⟩
      obtain ⟨bb, o, x, rfl, _, hxm, hma, c0, c1, c2, c3, c4, c5, c6, c7⟩ := (h.below hB).at_ hmk
      have hsr : SrcAt w (.slice x.sa m.ss.length x.sc) m.ss := by rw [← hxm]; exact hma.2
      obtain ⟨_, _, he, hsc, hscm⟩ := hsr.shape
      injection he with e1 _ e3
      subst e1; subst e3
      unfold maxLen at hscm
      have hid : m.id.length ≤ maxLen := by
        have := (HSM.out m (List.mem_of_getElem? hmk)).id
        unfold maxLen; omega
      obtain ⟨L, hL⟩ : ∃ L, L = srcs (unmarked (l.take k) mk) := ⟨_, rfl⟩
      have hL2 : srcs (unmarked (l.take (k + 1)) mk) = L ++ (if (mk m.id).isNone then m.ss else []) := by
        rw [unmarked_take hmk, srcs_append, hL]
        split <;> simp [srcs]
      have hms : ∀ s ∈ m.ss, s.length ≤ 1000 := (HSM.out m (List.mem_of_getElem? hmk)).ss
      have hLn := HS.out (k + 1)
      rw [hL2] at hLn
      rw [← hL] at hM hn
      have HL2 := Lib.hid hL2
      have HMS := Lib.hid hms
      clear hmk hL hL2 hms hma hxm
      have hci : (0 : Int) ≤ (k : Int) := by omega
      have x2 : ∀ o, (wr.alloc o).cell? ⟨w.heap.size, 2, none⟩ = some (.map (some b)) := fun o => (hX.alloc o).cell (i := 2) rfl
      have hm2 := (hm.below hB).alloc (.cells #[.string (bs m.id), .int .i64 m.mn, .int .i64 m.mx, .int .i64 m.lv, .int .i64 m.sr, .int .i64 m.sm, .slice x.fa m.fs.length x.fc, .slice x.sa m.ss.length x.sc] 55)
      have hM1 := hM.alloc (.cells #[.string (bs m.id), .int .i64 m.mn, .int .i64 m.mx, .int .i64 m.lv, .int .i64 m.sr, .int .i64 m.sm, .slice x.fa m.fs.length x.fc, .slice x.sa m.ss.length x.sc] 55)
      have hX1 := hX.alloc (.cells #[.string (bs m.id), .int .i64 m.mn, .int .i64 m.mx, .int .i64 m.lv, .int .i64 m.sr, .int .i64 m.sm, .slice x.fa m.fs.length x.fc, .slice x.sa m.ss.length x.sc] 55)
      have hB1 := below_trans hB (below_al wr (.cells #[.string (bs m.id), .int .i64 m.mn, .int .i64 m.mx, .int .i64 m.lv, .int .i64 m.sr, .int .i64 m.sm, .slice x.fa m.fs.length x.fc, .slice x.sa m.ss.length x.sc] 55))
      clear hM hB hX
      obtain ⟨z, hz⟩ : ∃ z, (mk m.id).getD 0 = z := ⟨_, rfl⟩
      obtain ⟨g, hg⟩ : ∃ g, (mk m.id).isSome = g := ⟨_, rfl⟩
      have hpm : (mk m.id).isNone = !g := by rw [← hg]; cases mk m.id <;> rfl
      rw [hpm] at hLn
      have HL3 : Hid (srcs (unmarked (l.take (k + 1)) mk) = L ++ (if (!g) = true then m.ss else [])) := Lib.hid (by rw [← hpm]; exact HL2.out)
      have HZ := Lib.hid hz
      have HGG := Lib.hid hg
      clear hz hg hpm HL2
      rcases g with _ | _
      · have hLn : L.length + m.ss.length ≤ 1000000 := by simpa using hLn
        have HL2 : Hid (srcs (unmarked (l.take (k + 1)) mk) = L ++ m.ss) := Lib.hid (by have := HL3.out; simpa using this)
        clear HL3
        go_wp2_with (at_lookup; refine wpList_lookup_mp_ok _ rfl _ _ 24 rfl marks_ty rfl hm2 m.id rfl hid z HZ.out false HGG.out ?_)
        clear x2 hm2
        obtain ⟨wo, hwo⟩ : ∃ wo, wo = wr.alloc (.cells #[.string (bs m.id), .int .i64 m.mn, .int .i64 m.mx, .int .i64 m.lv, .int .i64 m.sr, .int .i64 m.sm, .slice x.fa m.fs.length x.fc, .slice x.sa m.ss.length x.sc] 55) := ⟨_, rfl⟩
        rw [← hwo] at hM1 hB1 hX1 ⊢
        clear hwo c0 c1 c2 c3 c4 c5 c6 c7
        go_loopw [36] (fun j wi => ∃ q q' : Nat, j = .int .i64 q ∧ q ≤ m.ss.length ∧ q' = L.length + q ∧ Mp wi (w.heap.size + 1) q' (cntF (L ++ m.ss.take q)) ∧ Blk wi w.heap.size 26 #[.int .i64 at_, .slice (some ⟨bb, o, none⟩) l.length c, .map (some b)] ∧ Below w.heap.size w wi) (fun j _ => m.ss.length - (intOf j).toNat)
        case atStart => exact ⟨0, n, rfl, Nat.zero_le _, by omega, by rw [List.take_zero, List.append_nil]; exact hM1, hX1, hB1⟩
        case round =>
          obtain ⟨q, q', rfl, hq, hq', hM2, hX2, hB2⟩ := hrel
          clear hM1 hB1 hX1
          by_cases hgo2 : q < m.ss.length
          · obtain ⟨s, hs⟩ : ∃ s, m.ss[q]? = some s := ⟨_, List.getElem?_eq_getElem hgo2⟩
            obtain ⟨b2, o2, hA2, _, d0⟩ := (hsr.below hB2).at_ hs
            have hsl : s.length ≤ maxLen := by
              have := HMS.out s (List.mem_of_getElem? hs)
              unfold maxLen; omega
            obtain ⟨C, hC⟩ : ∃ C : Nat, (L ++ m.ss.take q).count s = C := ⟨_, rfl⟩
            have hC1 : C ≤ 1000000 := by
              have h1 := List.count_le_length (l := L ++ m.ss.take q) (a := s)
              rw [hC, List.length_append, List.length_take] at h1
              omega
            have HGC : Hid ((cntF (L ++ m.ss.take q) s).getD 0 = (C : Int)) := Lib.hid (by rw [cntF_getD, hC])
            have HU : Hid (upd (cntF (L ++ m.ss.take q)) s ((C : Int) + 1) = cntF (L ++ m.ss.take (q + 1))) := Lib.hid (by
              rw [List.take_add_one, hs, Option.toList_some, ← List.append_assoc, cntF_snoc, hC]
              rfl)
            have HA2 := Lib.hid hA2
            clear hs hC hA2
            have hci2 : (0 : Int) ≤ (q : Int) := by omega
            obtain ⟨F, hF⟩ : ∃ F, F = cntF (L ++ m.ss.take q) := ⟨_, rfl⟩
            rw [← hF] at HGC HU hM2
            clear hF
            rw [HA2.out]
            go_wp2_with (first
              | (at_lookup; refine wpList_lookup_mp _ rfl _ _ 24 rfl marks_ty rfl hM2 s rfl hsl (C : Int) HGC.out ?_)
              | (at_mapUpdate; refine wpList_update_mp _ rfl _ _ _ 24 rfl marks_ty rfl hM2 (by unfold maxLen; omega) s rfl hsl ((C : Int) + 1) (by go_num) (by omega) (by omega) ?_; intro w5 hm5 hg5; have hX5 := hX2.grown hg5 (by omega)))
            go_roundw
            case rel => exact ⟨q + 1, q' + 1, by go_num, by omega, by omega, by rw [HU.out] at hm5; exact hm5, hX5, grown_below hB2 hg5 (by omega) (Nat.le_refl _)⟩
            case measure => simp [intOf]; omega
          · go_wp2_with fail
            obtain rfl : q = m.ss.length := by omega
            rw [List.take_length, ← HL2.out] at hM2
            go_roundw
            case rel => exact ⟨k + 1, q', by go_num, by omega, by rw [HL2.out, List.length_append]; omega, hM2, hX2, hB2⟩
            case measure => simp [intOf]; omega
      · have HL2 : Hid (srcs (unmarked (l.take (k + 1)) mk) = L) := Lib.hid (by have := HL3.out; simpa using this)
        go_wp2_with (at_lookup; refine wpList_lookup_mp_ok _ rfl _ _ 24 rfl marks_ty rfl hm2 m.id rfl hid z HZ.out true HGG.out ?_)
        go_roundw
        case rel => exact ⟨k + 1, n, by go_num, by omega, by rw [HL2.out]; exact hn, by rw [HL2.out]; exact hM1, hX1, hB1⟩
        case measure => simp [intOf]; omega
    · obtain rfl : k = l.length := by omega
      rw [List.take_length, ← HGF.out] at hM
      have x1 : wr.cell? ⟨w.heap.size, 1, none⟩ = some (.slice A l.length c) := hX.cell (i := 1) rfl
      go_wp2_with fail
      clear x1
      obtain ⟨w2, hw2⟩ : ∃ w2, w2 = wr := ⟨_, rfl⟩
      rw [← hw2] at hM hX hB ⊢
      clear hw2
      have hms := h.below hB
      have hmk2 := hm.below hB
      clear h hm
      go_loopw [10, 49] (fun ov i wr => ∃ k : Nat, i = .int .i64 k ∧ k ≤ l.length ∧ NBuf w2 wr 9 1 ov ((l.take k).filter p).length (scs (((l.take k).filter p).map (·.id)))) (fun _ i _ => l.length - (intOf i).toNat)
      case atStart => exact ⟨0, rfl, Nat.zero_le _, NBuf.nil (Below.refl _ _) _ _⟩
      case round =>
        obtain ⟨k, rfl, hk, hnb⟩ := hrel
        obtain ⟨A2, c2, rfl, hc2⟩ := hnb.buf.shape
        have hfl := filter_take_len p l k
        obtain ⟨FL, hFL⟩ : ∃ FL, FL = (l.take k).filter p := ⟨_, rfl⟩
        rw [← hFL] at hnb hfl hc2 ⊢
        have HFL := Lib.hid hFL
        clear hFL
        by_cases hgo : k < l.length
        · obtain ⟨m, hmk⟩ : ∃ m, l[k]? = some m := ⟨_, List.getElem?_eq_getElem hgo⟩
          obtain ⟨bb, o, x, hA, _, hxm, hma, c0, c1, c2', c3, c4, c5, c6, c7⟩ := (hms.below hnb.below).at_ hmk
          have hid : m.id.length ≤ maxLen := by
            have := (HSM.out m (List.mem_of_getElem? hmk)).id
            unfold maxLen; omega
          have hft := filter_take (p := p) hmk
          rw [← HFL.out] at hft
          have HFT := Lib.hid hft
          have HA := Lib.hid hA
          clear hmk hxm hma hft hA
          have hci : (0 : Int) ≤ (k : Int) := by omega
          have x2 : ∀ o, (wr.alloc o).cell? ⟨w.heap.size, 2, none⟩ = some (.map (some b)) := fun o => ((hX.below hnb.below).alloc o).cell (i := 2) rfl
          have hm2 := (hmk2.below hnb.below).alloc (.cells #[.string (bs m.id), .int .i64 m.mn, .int .i64 m.mx, .int .i64 m.lv, .int .i64 m.sr, .int .i64 m.sm, .slice x.fa m.fs.length x.fc, .slice x.sa m.ss.length x.sc] 55)
          have hM1 := (hM.below hnb.below).alloc (.cells #[.string (bs m.id), .int .i64 m.mn, .int .i64 m.mx, .int .i64 m.lv, .int .i64 m.sr, .int .i64 m.sm, .slice x.fa m.fs.length x.fc, .slice x.sa m.ss.length x.sc] 55)
          have hnb1 := hnb.alloc (.cells #[.string (bs m.id), .int .i64 m.mn, .int .i64 m.mx, .int .i64 m.lv, .int .i64 m.sr, .int .i64 m.sm, .slice x.fa m.fs.length x.fc, .slice x.sa m.ss.length x.sc] 55)
          obtain ⟨z, hz⟩ : ∃ z, (mk m.id).getD 0 = z := ⟨_, rfl⟩
          obtain ⟨g, hg⟩ : ∃ g, (mk m.id).isSome = g := ⟨_, rfl⟩
          obtain ⟨G, hGG⟩ : ∃ G, gone (unmarked l mk) m.id = G := ⟨_, rfl⟩
          have hgg := HG.out m.id
          rw [hGG] at hgg
          have hpm : p m = (decide (0 < G) && !g) := by
            rw [HP.out, ← hg, hGG]; cases mk m.id <;> rfl
          have HZ := Lib.hid hz
          have HGG := Lib.hid hg
          have HPM := Lib.hid hpm
          have HGC := Lib.hid hgg
          clear hz hg hpm hGG hgg hnb
          rw [HA.out]
          by_cases h0 : 0 < G
          · have h1 : (0 : Int) < (G : Int) := by omega
            rcases g with _ | _
            · go_wp2_with (first
                | (at_lookup; first | refine wpList_lookup_mp _ rfl _ _ 24 rfl marks_ty rfl hM1 m.id rfl hid (G : Int) HGC.out ?_ | refine wpList_lookup_mp_ok _ rfl _ _ 24 rfl marks_ty rfl hm2 m.id rfl hid z HZ.out false HGG.out ?_)
                | (at_builtin; refine wpList_append_nlit rfl (.tmp 70) (.tmp 73) 43 rfl str_ty rfl hnb1 rfl (by simp) rfl (by simp [Value.oneCell']) (by simp only [maxLen]; omega) (by omega) ?_; intro v3 w5 hnb5 _))
              go_roundw
              case rel => exact ⟨k + 1, by go_num, by omega, by
                rw [HFT.out, HPM.out, decide_eq_true h0, if_pos (show (true && !false) = true from rfl), List.map_append, scs_append, List.length_append]
                exact hnb5⟩
              case measure => simp [intOf]; omega
            · go_wp2_with (at_lookup; first | refine wpList_lookup_mp _ rfl _ _ 24 rfl marks_ty rfl hM1 m.id rfl hid (G : Int) HGC.out ?_ | refine wpList_lookup_mp_ok _ rfl _ _ 24 rfl marks_ty rfl hm2 m.id rfl hid z HZ.out true HGG.out ?_)
              go_roundw
              case rel => exact ⟨k + 1, by go_num, by omega, by rw [HFT.out, HPM.out, decide_eq_true h0, if_neg (by decide), List.append_nil]; exact hnb1⟩
              case measure => simp [intOf]; omega
          · obtain rfl : G = 0 := by omega
            rcases g with _ | _
            · go_wp2_with (at_lookup; first | refine wpList_lookup_mp _ rfl _ _ 24 rfl marks_ty rfl hM1 m.id rfl hid (0 : Int) HGC.out ?_ | refine wpList_lookup_mp_ok _ rfl _ _ 24 rfl marks_ty rfl hm2 m.id rfl hid z HZ.out false HGG.out ?_)
              go_roundw
              case rel => exact ⟨k + 1, by go_num, by omega, by rw [HFT.out, HPM.out, decide_eq_false h0, if_neg (by decide), List.append_nil]; exact hnb1⟩
              case measure => simp [intOf]; omega
            · go_wp2_with (at_lookup; first | refine wpList_lookup_mp _ rfl _ _ 24 rfl marks_ty rfl hM1 m.id rfl hid (0 : Int) HGC.out ?_ | refine wpList_lookup_mp_ok _ rfl _ _ 24 rfl marks_ty rfl hm2 m.id rfl hid z HZ.out true HGG.out ?_)
              go_roundw
              case rel => exact ⟨k + 1, by go_num, by omega, by rw [HFT.out, HPM.out, decide_eq_false h0, if_neg (by decide), List.append_nil]; exact hnb1⟩
              case measure => simp [intOf]; omega
        · obtain rfl : k = l.length := by omega
          have hres : NBuf w wr 9 1 (.slice A2 FL.length c2) (toMark l mk).length (scs (toMark l mk)) := by
            rw [HTM.out, List.length_map, ← List.take_length (l := l), ← HFL.out]
            exact hnb.after hB
          have HR := Lib.hid hres
          clear hres hnb
          go_wp2_with fail
          go_ret
          exact ⟨_, rfl, HR.out⟩
end Go.Proofs.Ytemmgejaoegpfaa
