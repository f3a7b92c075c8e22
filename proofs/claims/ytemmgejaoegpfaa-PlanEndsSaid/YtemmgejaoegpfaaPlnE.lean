/-
  Layers 10 and 20: the live blocks, the free ones, the rank.
-/
import Derived.Test.YtemmgejaoegpfaaPlnD
namespace Go.Proofs.Ytemmgejaoegpfaa
open Go.RowKit Go.Bar Go.Bar.Leb Go.Bar.Frm Go.Bar.Idt Go.Bar.Met Go.Bar.Pln

/-- a meta's cells -/
def mcell (x : Mv) : Array Value := #[.string (bs x.m.id), .int .i64 x.m.mn, .int .i64 x.m.mx, .int .i64 x.m.lv, .int .i64 x.m.sr, .int .i64 x.m.sm, .slice x.fa x.m.fs.length x.fc, .slice x.sa x.m.ss.length x.sc]
theorem filter_take {p : Mt → Bool} {l : List Mt} {k : Nat} {m : Mt} (h : l[k]? = some m) : (l.take (k + 1)).filter p = (l.take k).filter p ++ (if p m then [m] else []) := by
  rw [List.take_add_one, h, List.filter_append, Option.toList_some]
  congr 1
  simp only [List.filter_cons, List.filter_nil]
theorem filter_take_len (p : Mt → Bool) (l : List Mt) (k : Nat) : ((l.take k).filter p).length ≤ l.length := Nat.le_trans (List.length_filter_le _ _) (by rw [List.length_take]; omega)

theorem NMs.snoc {w0 w wr : World} {T : TypeId} {v : Value} {l : List Mt} {xs : List Mv} {x : Mv} {m : Mt} (hxs : xs.map (·.m) = l) (hma : ∀ x ∈ xs, MAt w0 x) (hx : x.m = m) (ha : MAt w0 x)
    (h : NBuf w wr T 8 v (xs.length + 1) (mcs xs ++ [.string (bs m.id), .int .i64 m.mn, .int .i64 m.mx, .int .i64 m.lv, .int .i64 m.sr, .int .i64 m.sm, .slice x.fa m.fs.length x.fc, .slice x.sa m.ss.length x.sc])) : NMs w0 w wr T v (l ++ [m]) := by
  subst hx
  refine ⟨xs ++ [x], by rw [List.map_append, hxs]; rfl, ?_, fun y hy => ?_⟩
  · rw [List.length_append, mcs_snoc]
    exact h
  · rcases List.mem_append.1 hy with hy | hy
    · exact hma y hy
    · obtain rfl := List.mem_singleton.1 hy
      exact ha

set_option maxHeartbeats 4000000 in
set_option maxRecDepth 10000 in
theorem live_any (at_ : Int) (mv : Value) (l : List Mt) (b : Nat) (w0 w : World) (hw : Below w0.heap.size w0 w) (h : MsAt w0 w mv l) (hl : Lst l) :
    Calls Try.prog 33 #[.agg #[.int .i64 at_, mv, .map (some b)]] w (RetMs w0 w (live l)) := by
  have hs := fun w' (hb : Below w.heap.size w w') => shadowed_any at_ mv l b w' ((h.below hb).base (below_trans hw hb)) hl
  have HSH := Lib.hid hs
  clear hs
  obtain ⟨A, c, rfl, hlc, hcm⟩ := h.shape
  unfold maxLen at hcm
  have hlen := hl.len
  have HSM := Lib.hid hl.sm
  have hG : ∀ m, (cntF (srcs l) m).getD 0 = (gone l m : Int) := fun m => cntF_getD _ _
  have HG := Lib.hid hG
  obtain ⟨F, hF⟩ : ∃ F, F = cntF (srcs l) := ⟨_, rfl⟩
  rw [← hF] at HG
  have HF := Lib.hid hF
  obtain ⟨p, hp⟩ : ∃ p : Mt → Bool, p = fun x => gone l x.id == 0 := ⟨_, rfl⟩
  have hlv : live l = l.filter p := by rw [hp]; rfl
  have hp2 : ∀ m, p m = (gone l m.id == 0) := fun m => by rw [hp]
  have HLV := Lib.hid hlv
  have HP := Lib.hid hp2
  clear hl hG hF hp hlv hp2 hw
  go_enter Try.func33, Try.ntmps33
  go_wp2_with fail
  have hb0 := below_al w (.cells #[.int .i64 at_, .slice A l.length c, .map (some b)] 26)
  refine (HSH.out _ hb0).mono ?_
  rintro e w1 ⟨M, n, rfl, hM, hn, hb1⟩
  have hB1 := below_trans hb0 hb1
  have c1 : w1.cell? ⟨w.heap.size, 1, none⟩ = some (.slice A l.length c) := ((Blk.new w #[.int .i64 at_, .slice A l.length c, .map (some b)] 26).below hb1).cell (i := 1) rfl
  rw [← HF.out] at hM
  clear hb0 hb1
  go_wp2_with fail
  clear c1
  go_loopw [4, 12] (fun ov i wr => ∃ k : Nat, i = .int .i64 k ∧ k ≤ l.length ∧ NMs w0 w wr 55 ov ((l.take k).filter p) ∧ Mp wr M n F) (fun _ i _ => l.length - (intOf i).toNat)
  case atStart => exact ⟨0, rfl, Nat.zero_le _, NMs.nil hB1 _ _, hM⟩
  case round =>
    obtain ⟨k, rfl, hk, hN, hM⟩ := hrel
    clear hB1
    obtain ⟨xs, hxs, hnb, hma⟩ := hN
    have HXS := Lib.hid hxs
    have HMA := Lib.hid hma
    have hxl : xs.length ≤ 1000 := by rw [map_len hxs]; exact Nat.le_trans (filter_take_len p l k) hlen
    obtain ⟨A2, c2, rfl, hc2⟩ := hnb.buf.shape
    clear hxs hma
    by_cases hgo : k < l.length
    · obtain ⟨m, hmk⟩ : ∃ m, l[k]? = some m := ⟨_, List.getElem?_eq_getElem hgo⟩
      obtain ⟨bb, o, x, rfl, _, hxm, hma, c0, c1, c2, c3, c4, c5, c6, c7⟩ := (h.below hnb.below).at_ hmk
      have hid : m.id.length ≤ maxLen := by
        have := (HSM.out m (List.mem_of_getElem? hmk)).id
        unfold maxLen; omega
      have HFT := Lib.hid (filter_take (p := p) hmk)
      have HX := Lib.hid hxm
      have HA := Lib.hid hma
      have hg := HG.out m.id
      have HGM := Lib.hid hg
      clear hmk hxm hma hg
      have hci : (0 : Int) ≤ (k : Int) := by omega
      have hM1 := hM.alloc (.cells #[.string (bs m.id), .int .i64 m.mn, .int .i64 m.mx, .int .i64 m.lv, .int .i64 m.sr, .int .i64 m.sm, .slice x.fa m.fs.length x.fc, .slice x.sa m.ss.length x.sc] 55)
      have hnb1 := hnb.alloc (.cells #[.string (bs m.id), .int .i64 m.mn, .int .i64 m.mx, .int .i64 m.lv, .int .i64 m.sr, .int .i64 m.sm, .slice x.fa m.fs.length x.fc, .slice x.sa m.ss.length x.sc] 55)
      clear hM hnb
      obtain ⟨G, hGG⟩ : ∃ G, G = gone l m.id := ⟨_, rfl⟩
      have hpm : p m = (G == 0) := by rw [HP.out, hGG]
      rw [← hGG] at HGM
      clear hGG
      by_cases hz : G = 0
      · have hpt : p m = true := by rw [hpm, hz]; rfl
        have HPM := Lib.hid hpt
        clear hpt hpm
        subst hz
        go_wp2_with (first
          | (at_lookup; refine wpList_lookup_mp _ rfl _ _ 24 rfl marks_ty rfl hM1 m.id rfl hid 0 HGM.out ?_)
          | (at_builtin; refine wpList_append_nlit rfl (.tmp 21) (.tmp 23) 23 rfl meta_ty rfl hnb1 rfl (by simp) rfl (by simp [Value.oneCell']) (by simp only [maxLen]; omega) (by omega) ?_; intro v3 w5 hnb5 ha5; have hM5 := (hM1.alloc _).ap ha5))
        go_roundw
        case rel => exact ⟨k + 1, by go_num, by omega, by rw [HFT.out, HPM.out, if_pos rfl]; exact NMs.snoc HXS.out HMA.out HX.out HA.out hnb5, hM5⟩
        case measure => simp [intOf]; omega
      · have hpm : p m = false := by rw [hpm]; simp [hz]
        have HPM := Lib.hid hpm
        have hz1 : (0 : Int) < (G : Int) := by omega
        have hz2 : ((G : Int) == 0) = false := by rw [beq_eq_false_iff_ne]; omega
        clear hpm hz
        go_wp2_with (at_lookup; refine wpList_lookup_mp _ rfl _ _ 24 rfl marks_ty rfl hM1 m.id rfl hid (G : Int) HGM.out ?_)
        go_roundw
        case rel => exact ⟨k + 1, by go_num, by omega, by rw [HFT.out, HPM.out, if_neg (by decide), List.append_nil]; exact ⟨xs, HXS.out, hnb1, HMA.out⟩, hM1⟩
        case measure => simp [intOf]; omega
    · obtain rfl : k = l.length := by omega
      have hxs := HXS.out
      rw [List.take_length, ← HLV.out] at hxs
      have HXS2 := Lib.hid hxs
      clear hxs HXS
      go_wp2_with fail
      go_ret
      exact ⟨_, rfl, xs, HXS2.out, hnb, HMA.out⟩

theorem live_asc {l : List Mt} (h : Lst l) : (live l).Pairwise (fun a b => a.id < b.id) := h.asc.filter _
theorem live_len (l : List Mt) : (live l).length ≤ l.length := List.length_filter_le _ _
theorem live_sm {l : List Mt} (h : Lst l) : ∀ m ∈ live l, Sm m := fun m hm => h.sm m (List.mem_filter.1 hm).1

set_option maxHeartbeats 4000000 in
set_option maxRecDepth 10000 in
theorem free_any (at_ : Int) (mv : Value) (l : List Mt) (b nm : Nat) (mk : Marks) (w0 w : World) (hw : Below w0.heap.size w0 w) (h : MsAt w0 w mv l) (hm : Mp w b nm mk) (hl : Lst l) (h20 : (freeU l mk).length < 20) :
    Calls Try.prog 21 #[.agg #[.int .i64 at_, mv, .map (some b)]] w (RetMs w0 w (free l mk)) := by
  have hs := fun w' (hb : Below w.heap.size w w') => live_any at_ mv l b w0 w' (below_trans hw hb) (h.below hb) hl
  have HSH := Lib.hid hs
  clear hs
  obtain ⟨A, c, rfl, hlc, hcm⟩ := h.shape
  unfold maxLen at hcm
  have hlen := live_len l
  have hlen2 := hl.len
  have HSM := Lib.hid (live_sm hl)
  have HASC := Lib.hid (freeU_asc mk hl)
  have hfr : free l mk = srt (freeU l mk) := rfl
  have HFR := Lib.hid hfr
  have hfu : freeU l mk = (live l).filter (fun x => (mk x.id).isNone) := rfl
  obtain ⟨p, hp⟩ : ∃ p : Mt → Bool, p = fun x => (mk x.id).isNone := ⟨_, rfl⟩
  rw [← hp] at hfu
  have hp2 : ∀ m : Mt, p m = (mk m.id).isNone := fun m => by rw [hp]
  have HP := Lib.hid hp2
  obtain ⟨L, hL⟩ : ∃ L, L = live l := ⟨_, rfl⟩
  obtain ⟨U, hU⟩ : ∃ U, U = freeU l mk := ⟨_, rfl⟩
  obtain ⟨R, hR⟩ : ∃ R, R = free l mk := ⟨_, rfl⟩
  rw [← hL] at HSH hfu hlen HSM
  rw [← hU] at hfu HASC HFR h20
  rw [← hR] at HFR ⊢
  have HFU := Lib.hid hfu
  clear hl hfr hfu hp hp2 hL hU hR
  go_enter Try.func21, Try.ntmps21
  go_wp2_with fail
  have hb0 := below_al w (.cells #[.int .i64 at_, .slice A l.length c, .map (some b)] 26)
  refine (HSH.out _ hb0).mono ?_
  rintro e w1 ⟨v1, rfl, hn1⟩
  have hB1 := below_trans hb0 hn1.below_
  have X1 := (Blk.new w #[.int .i64 at_, .slice A l.length c, .map (some b)] 26).below hn1.below_
  have hL1 := hn1.slice
  have hM1 := hm.below hB1
  obtain ⟨A1, k1, rfl, hk1, hkm1⟩ := hL1.shape
  unfold maxLen at hkm1
  clear hn1 hb0 h HSH hm
  go_wp2_with fail
  go_loopw [3, 11] (fun ov i wr => ∃ k : Nat, i = .int .i64 k ∧ k ≤ L.length ∧ NMs w0 w1 wr 55 ov ((L.take k).filter p)) (fun _ i _ => L.length - (intOf i).toNat)
  case atStart => exact ⟨0, rfl, Nat.zero_le _, NMs.nil (Below.refl _ _) _ _⟩
  case round =>
    obtain ⟨k, rfl, hk, hN⟩ := hrel
    obtain ⟨xs, hxs, hnb, hma⟩ := hN
    have HXS := Lib.hid hxs
    have HMA := Lib.hid hma
    have hxl : xs.length ≤ 1000 := by rw [map_len hxs]; exact Nat.le_trans (filter_take_len p L k) (by omega)
    obtain ⟨A2, c2, rfl, hc2⟩ := hnb.buf.shape
    clear hxs hma
    by_cases hgo : k < L.length
    · obtain ⟨m, hmk⟩ : ∃ m, L[k]? = some m := ⟨_, List.getElem?_eq_getElem hgo⟩
      obtain ⟨bb, o, x, rfl, _, hxm, hma, c0, c1, c2, c3, c4, c5, c6, c7⟩ := (hL1.below hnb.below).at_ hmk
      have hid : m.id.length ≤ maxLen := by
        have := (HSM.out m (List.mem_of_getElem? hmk)).id
        unfold maxLen; omega
      have HFT := Lib.hid (filter_take (p := p) hmk)
      have HX := Lib.hid hxm
      have HA := Lib.hid hma
      clear hmk hxm hma
      have hci : (0 : Int) ≤ (k : Int) := by omega
      have x2 : ∀ o, (wr.alloc o).cell? ⟨w.heap.size, 2, none⟩ = some (.map (some b)) := fun o => ((X1.below hnb.below).alloc o).cell (i := 2) rfl
      have hM2 := (hM1.below hnb.below).alloc (.cells #[.string (bs m.id), .int .i64 m.mn, .int .i64 m.mx, .int .i64 m.lv, .int .i64 m.sr, .int .i64 m.sm, .slice x.fa m.fs.length x.fc, .slice x.sa m.ss.length x.sc] 55)
      have hnb1 := hnb.alloc (.cells #[.string (bs m.id), .int .i64 m.mn, .int .i64 m.mx, .int .i64 m.lv, .int .i64 m.sr, .int .i64 m.sm, .slice x.fa m.fs.length x.fc, .slice x.sa m.ss.length x.sc] 55)
      clear hnb
      obtain ⟨z, hz⟩ : ∃ z, (mk m.id).getD 0 = z := ⟨_, rfl⟩
      obtain ⟨g, hg⟩ : ∃ g, (mk m.id).isSome = g := ⟨_, rfl⟩
      have hpm : p m = !g := by rw [HP.out, ← hg]; cases mk m.id <;> rfl
      have HZ := Lib.hid hz
      have HG := Lib.hid hg
      have HPM := Lib.hid hpm
      clear hz hg hpm
      rcases g with _ | _
      · go_wp2_with (first
          | (at_lookup; refine wpList_lookup_mp_ok _ rfl _ _ 24 rfl marks_ty rfl hM2 m.id rfl hid z HZ.out false HG.out ?_)
          | (at_builtin; refine wpList_append_nlit rfl (.tmp 25) (.tmp 27) 23 rfl meta_ty rfl hnb1 rfl (by simp) rfl (by simp [Value.oneCell']) (by simp only [maxLen]; omega) (by omega) ?_; intro v3 w5 hnb5 _))
        go_roundw
        case rel => exact ⟨k + 1, by go_num, by omega, by rw [HFT.out, HPM.out, if_pos (show (!false) = true from rfl)]; exact NMs.snoc HXS.out HMA.out HX.out HA.out hnb5⟩
        case measure => simp [intOf]; omega
      · go_wp2_with (at_lookup; refine wpList_lookup_mp_ok _ rfl _ _ 24 rfl marks_ty rfl hM2 m.id rfl hid z HZ.out true HG.out ?_)
        go_roundw
        case rel => exact ⟨k + 1, by go_num, by omega, by rw [HFT.out, HPM.out, if_neg (by decide), List.append_nil]; exact ⟨xs, HXS.out, hnb1, HMA.out⟩⟩
        case measure => simp [intOf]; omega
    · obtain rfl : k = L.length := by omega
      have hxs := HXS.out
      rw [List.take_length, ← HFU.out] at hxs
      have hN : NMs w0 w1 wr 55 (.slice A2 xs.length c2) U := ⟨xs, hxs, hnb, HMA.out⟩
      have hUl := map_len hxs
      rw [hUl] at hN
      have HUL := Lib.hid hUl
      have hc : Calls Try.prog 34 #[.slice A2 xs.length c2, .func (.func 35) #[] #[]] wr
          fun e w' => e = .returned (.tuple #[]) ∧ NMs w0 w w' 55 (.slice A2 xs.length c2) R := by
        rw [hUl, HFR.out]
        rcases Nat.eq_zero_or_pos U.length with h0 | h0
        · obtain rfl : U = [] := List.eq_nil_of_length_eq_zero h0
          refine (stableNone_any A2 c2 wr).mono ?_
          rintro e w' ⟨rfl, rfl⟩
          exact ⟨rfl, hN.after hB1⟩
        · obtain ⟨m, hm⟩ : ∃ m, U[0]? = some m := ⟨_, List.getElem?_eq_getElem h0⟩
          obtain ⟨bb, o, _, rfl, _⟩ := hN.slice.at_ hm
          refine (stable_any bb o c2 U w0 w1 wr hN h0 h20 HASC.out).mono ?_
          rintro e w' ⟨rfl, hn, _⟩
          exact ⟨rfl, hn.after hB1⟩
      have HC := Lib.hid hc
      clear hc hN hUl hxs HXS
      go_wp2_with fail
      refine HC.out.mono ?_
      rintro e w' ⟨rfl, hn⟩
      go_wp2_with fail
      go_ret
      exact ⟨_, rfl, hn⟩

set_option maxHeartbeats 1000000 in
set_option maxRecDepth 10000 in
theorem rank_any (at_ : Int) (mv : Value) (l : List Mt) (b nm : Nat) (mk : Marks) (w0 w : World) (hw : Below w0.heap.size w0 w) (h : MsAt w0 w mv l) (hm : Mp w b nm mk) (hl : Lst l) (h20 : (freeU l mk).length < 20) :
    Calls Try.prog 14 #[.agg #[.int .i64 at_, mv, .map (some b)]] w (RetBelow w (.int .i64 (rank l mk))) := by
  have hs := fun w' (hb : Below w.heap.size w w') => free_any at_ mv l b nm mk w0 w' (below_trans hw hb) (h.below hb) (hm.below hb) hl h20
  have HSH := Lib.hid hs
  have hlen : (free l mk).length ≤ 1000 := Nat.le_trans (free_length l mk) hl.len
  unfold rank
  obtain ⟨n, hn⟩ : ∃ n, n = (free l mk).length := ⟨_, rfl⟩
  rw [← hn] at hlen ⊢
  have HN := Lib.hid hn
  clear hs hl hm h20 hn
  obtain ⟨A, c, rfl, _, _⟩ := h.shape
  clear h
  by_cases hz : n = 0
  · subst hz
    go_enter Try.func14, Try.ntmps14
    go_wp2_with fail
    refine (HSH.out _ (below_al _ _)).mono ?_
    rintro e w1 ⟨v, rfl, hn⟩
    obtain ⟨A1, c1, rfl, _, _⟩ := hn.shape
    rw [← HN.out]
    go_wp2_with fail
    go_ret
    exact ⟨rfl, below_trans (below_al _ _) hn.below_⟩
  · go_enter Try.func14, Try.ntmps14
    go_wp2_with fail
    refine (HSH.out _ (below_al _ _)).mono ?_
    rintro e w1 ⟨v, rfl, hn⟩
    obtain ⟨A1, c1, rfl, _, _⟩ := hn.shape
    rw [← HN.out]
    go_wp2_with fail
    go_ret
    exact ⟨rfl, below_trans (below_al _ _) hn.below_⟩
end Go.Proofs.Ytemmgejaoegpfaa
