/-
  Layers 10 and 20: which blocks are shadowed, live, free; the rank; what is to be marked.
-/
import Derived.Test.YtemmgejaoegpfaaPlnC
namespace Go.Proofs.Ytemmgejaoegpfaa
open Go.RowKit Go.Bar Go.Bar.Leb Go.Bar.Frm Go.Bar.Idt Go.Bar.Met Go.Bar.Pln

/-- a map from texts to ints -/
abbrev Mp (w : World) (b n : Nat) (f : Marks) : Prop := MpAt Try.prog 9 3 w b n f
/-- a map, made by the call -/
def RetMp (w : World) (f : Marks) (N : Nat) (e : Ending) (w' : World) : Prop := ∃ b n, e = .returned (.map (some b)) ∧ Mp w' b n f ∧ n ≤ N ∧ Below w.heap.size w w'
theorem srcs_take {l : List Mt} {k : Nat} {m : Mt} (h : l[k]? = some m) : srcs (l.take (k + 1)) = srcs (l.take k) ++ m.ss := by
  rw [List.take_add_one, h, srcs_append]
  simp [srcs]
theorem srcs_len {l : List Mt} (h : Lst l) (k : Nat) : (srcs (l.take k)).length ≤ 1000000 := by
  have h1 : ∀ l' : List Mt, (∀ m ∈ l', m ∈ l) → (srcs l').length ≤ l'.length * 1000 := by
    intro l'
    induction l' with
    | nil => intro _; simp [srcs]
    | cons m r ih =>
      intro hm
      have a1 := ih (fun m hm' => hm m (by simp [hm']))
      have a2 := (h.sm m (hm m (by simp))).sl
      unfold srcs at a1 ⊢
      rw [List.flatMap_cons, List.length_append, List.length_cons, Nat.add_mul]
      omega
  have h2 := h1 (l.take k) (fun m hm => List.mem_of_mem_take hm)
  have h3 := List.length_take_le k l
  have h4 := h.len
  have : (l.take k).length ≤ 1000 := by rw [List.length_take]; omega
  omega

set_option maxHeartbeats 4000000 in
set_option maxRecDepth 10000 in
theorem shadowed_any (at_ : Int) (mv : Value) (l : List Mt) (b : Nat) (w : World) (h : MsAt w w mv l) (hl : Lst l) :
    Calls Try.prog 18 #[.agg #[.int .i64 at_, mv, .map (some b)]] w (RetMp w (cntF (srcs l)) 1000000) := by
  obtain ⟨A, c, rfl, hlc, hcm⟩ := h.shape
  unfold maxLen at hcm
  have hlen := hl.len
  have HS := Lib.hid (srcs_len hl)
  have hsm := hl.sm
  have HSM := Lib.hid hsm
  clear hl hsm
  have hmm := @run_makeMap Try.prog
  go_enter Try.func18, Try.ntmps18
  go_wp2_with fail
  have hm0 := MpAt.made (w.alloc (.cells #[.int .i64 at_, .slice A l.length c, .map (some b)] 26)) Try.prog 9 3
  have hb0 := below_trans (below_al w (.cells #[.int .i64 at_, .slice A l.length c, .map (some b)] 26)) (below_al _ (.map #[] 0))
  rw [show (w.alloc (.cells #[.int .i64 at_, .slice A l.length c, .map (some b)] 26)).heap.size = w.heap.size + 1 by simp] at hm0
  obtain ⟨w1, hw1⟩ : ∃ w1, w1 = (w.alloc (.cells #[.int .i64 at_, .slice A l.length c, .map (some b)] 26)).alloc (.map #[] 0) := ⟨_, rfl⟩
  rw [← hw1] at hm0 hb0 ⊢
  clear hw1 hmm
  go_loopw [12] (fun i wr => ∃ k n : Nat, i = .int .i64 k ∧ k ≤ l.length ∧ n = (srcs (l.take k)).length ∧ Mp wr (w.heap.size + 1) n (cntF (srcs (l.take k))) ∧ Below w.heap.size w wr) (fun i _ => l.length - (intOf i).toNat)
  case atStart => exact ⟨0, 0, rfl, Nat.zero_le _, by simp [srcs], by rw [List.take_zero, show srcs [] = [] from rfl, cntF_nil]; exact hm0, hb0⟩
  case round =>
    obtain ⟨k, n, rfl, hk, hn, hM, hB⟩ := hrel
    clear hm0 hb0
    by_cases hgo : k < l.length
    · obtain ⟨m, hmk⟩ : ∃ m, l[k]? = some m := ⟨_, List.getElem?_eq_getElem hgo⟩
      obtain ⟨bb, o, x, rfl, _, hxm, hma, c0, c1, c2, c3, c4, c5, c6, c7⟩ := (h.below hB).at_ hmk
      have hsr : SrcAt w (.slice x.sa m.ss.length x.sc) m.ss := by rw [← hxm]; exact hma.2
      obtain ⟨_, _, he, hsc, hscm⟩ := hsr.shape
      injection he with e1 _ e3
      subst e1; subst e3
      unfold maxLen at hscm
      obtain ⟨L, hL⟩ : ∃ L, L = srcs (l.take k) := ⟨_, rfl⟩
      have hL2 := srcs_take hmk
      have hLn : L.length + m.ss.length ≤ 1000000 := by
        have := HS.out (k + 1)
        rw [hL2, List.length_append, ← hL] at this
        exact this
      rw [← hL] at hL2 hM hn
      have HL2 := Lib.hid hL2
      have hms : ∀ s ∈ m.ss, s.length ≤ 1000 := (HSM.out m (List.mem_of_getElem? hmk)).ss
      have HMS := Lib.hid hms
      clear hmk hL hL2 hms hma hxm
      have hci : (0 : Int) ≤ (k : Int) := by omega
      have hM1 := hM.alloc (.cells #[.string (bs m.id), .int .i64 m.mn, .int .i64 m.mx, .int .i64 m.lv, .int .i64 m.sr, .int .i64 m.sm, .slice x.fa m.fs.length x.fc, .slice x.sa m.ss.length x.sc] 55)
      have hB1 := below_trans hB (below_al wr (.cells #[.string (bs m.id), .int .i64 m.mn, .int .i64 m.mx, .int .i64 m.lv, .int .i64 m.sr, .int .i64 m.sm, .slice x.fa m.fs.length x.fc, .slice x.sa m.ss.length x.sc] 55))
      clear hM hB
      go_wp2_with fail
      obtain ⟨wo, hwo⟩ : ∃ wo, wo = wr.alloc (.cells #[.string (bs m.id), .int .i64 m.mn, .int .i64 m.mx, .int .i64 m.lv, .int .i64 m.sr, .int .i64 m.sm, .slice x.fa m.fs.length x.fc, .slice x.sa m.ss.length x.sc] 55) := ⟨_, rfl⟩
      rw [← hwo] at hM1 hB1 ⊢
      clear hwo c0 c1 c2 c3 c4 c5 c6 c7
      go_loopw [19] (fun j wi => ∃ q q' : Nat, j = .int .i64 q ∧ q ≤ m.ss.length ∧ q' = L.length + q ∧ Mp wi (w.heap.size + 1) q' (cntF (L ++ m.ss.take q)) ∧ Below w.heap.size w wi) (fun j _ => m.ss.length - (intOf j).toNat)
      case atStart => exact ⟨0, n, rfl, Nat.zero_le _, by omega, by rw [List.take_zero, List.append_nil]; exact hM1, hB1⟩
      case round =>
        obtain ⟨q, q', rfl, hq, hq', hM2, hB2⟩ := hrel
        clear hM1 hB1
        by_cases hgo2 : q < m.ss.length
        · obtain ⟨s, hs⟩ : ∃ s, m.ss[q]? = some s := ⟨_, List.getElem?_eq_getElem hgo2⟩
          obtain ⟨b2, o2, hA2, _, d0⟩ := (hsr.below hB2).at_ hs
          have hA2 := hA2
          have hsl : s.length ≤ maxLen := by
            have := HMS.out s (List.mem_of_getElem? hs)
            unfold maxLen; omega
          obtain ⟨C, hC⟩ : ∃ C : Nat, (L ++ m.ss.take q).count s = C := ⟨_, rfl⟩
          have hC1 : C ≤ 1000000 := by
            have h1 := List.count_le_length (l := L ++ m.ss.take q) (a := s)
            rw [hC, List.length_append, List.length_take] at h1
            omega
          have HG : Hid ((cntF (L ++ m.ss.take q) s).getD 0 = (C : Int)) := Lib.hid (by rw [cntF_getD, hC])
          have HU : Hid (upd (cntF (L ++ m.ss.take q)) s ((C : Int) + 1) = cntF (L ++ m.ss.take (q + 1))) := Lib.hid (by
            rw [List.take_add_one, hs, Option.toList_some, ← List.append_assoc, cntF_snoc, hC]
            rfl)
          have HA2 := Lib.hid hA2
          clear hs hC
          have hci2 : (0 : Int) ≤ (q : Int) := by omega
          obtain ⟨F, hF⟩ : ∃ F, F = cntF (L ++ m.ss.take q) := ⟨_, rfl⟩
          rw [← hF] at HG HU hM2
          clear hF
          rw [HA2.out]
          go_wp2_with (first
            | (at_lookup; refine wpList_lookup_mp _ rfl _ _ 24 rfl marks_ty rfl hM2 s rfl hsl (C : Int) HG.out ?_)
            | (at_mapUpdate; refine wpList_update_mp _ rfl _ _ _ 24 rfl marks_ty rfl hM2 (by unfold maxLen; omega) s rfl hsl ((C : Int) + 1) (by go_num) (by omega) (by omega) ?_; intro w5 hm5 hg5))
          go_roundw
          case rel => exact ⟨q + 1, q' + 1, by go_num, by omega, by omega, by rw [HU.out] at hm5; exact hm5, grown_below hB2 hg5 (by omega) (Nat.le_refl _)⟩
          case measure => simp [intOf]; omega
        · go_wp2_with fail
          obtain rfl : q = m.ss.length := by omega
          rw [List.take_length, ← HL2.out] at hM2
          go_roundw
          case rel => exact ⟨k + 1, q', by go_num, by omega, by rw [HL2.out, List.length_append]; omega, hM2, hB2⟩
          case measure => simp [intOf]; omega
    · obtain rfl : k = l.length := by omega
      rw [List.take_length] at hM hn
      have := HS.out l.length
      rw [List.take_length] at this
      go_wp2_with fail
      go_ret
      exact ⟨_, n, rfl, hM, by omega, hB⟩
end Go.Proofs.Ytemmgejaoegpfaa
