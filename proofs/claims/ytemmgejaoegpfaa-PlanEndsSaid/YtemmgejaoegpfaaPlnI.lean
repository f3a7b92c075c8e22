/-
  Layer 20: the names of a plan's blocks.
-/
import Derived.Test.YtemmgejaoegpfaaPlnF
import Derived.Test.YtemmgejaoegpfaaPlnG
import Derived.Test.YtemmgejaoegpfaaLib20
namespace Go.Proofs.Ytemmgejaoegpfaa
open Go.RowKit Go.Bar Go.Bar.Leb Go.Bar.Frm Go.Bar.Idt Go.Bar.Met Go.Bar.Pln

/-- names, rising -/
def srtS (l : List (List UInt8)) : List (List UInt8) := l.mergeSort fun x y => decide (x ≤ y)
theorem srtS_perm (l : List (List UInt8)) : (srtS l).Perm l := List.mergeSort_perm _ _
theorem srtS_len (l : List (List UInt8)) : (srtS l).length = l.length := (srtS_perm l).length_eq
theorem scs_enc (l : List (List UInt8)) : scs l = l.map Go.Proofs.encStr := rfl

set_option maxHeartbeats 4000000 in
set_option maxRecDepth 10000 in
theorem names_any (p : Pl) (v : Value) (w : World) (h : MsAt w w v p.ms) (hl : p.ms.length ≤ 1000) (hsm : ∀ m ∈ p.ms, Sm m) :
    Calls Try.prog 17 #[.agg #[.int .i64 p.fr, .int .i64 p.to_, .int .i64 p.lv, v]] w (RetSs w (srtS (p.ms.map (·.id)))) := by
  obtain ⟨A, c, rfl, hlc, hcm⟩ := h.shape
  unfold maxLen at hcm
  obtain ⟨L, hL⟩ : ∃ L, L = p.ms := ⟨_, rfl⟩
  rw [← hL] at h hl hsm hlc ⊢
  clear hL
  have HSM := Lib.hid hsm
  clear hsm
  go_enter Try.func17, Try.ntmps17
  go_wp2_with fail
  have B0 := below_al w (.cells #[.int .i64 p.fr, .int .i64 p.to_, .int .i64 p.lv, .slice A L.length c] 33)
  obtain ⟨w1, hw1⟩ : ∃ w1, w1 = w.alloc (.cells #[.int .i64 p.fr, .int .i64 p.to_, .int .i64 p.lv, .slice A L.length c] 33) := ⟨_, rfl⟩
  rw [← hw1] at B0 ⊢
  clear hw1
  go_loopw [3, 9] (fun ov i wr => ∃ k : Nat, i = .int .i64 k ∧ k ≤ L.length ∧ NBuf w wr 9 1 ov k (scs ((L.take k).map (·.id)))) (fun _ i _ => L.length - (intOf i).toNat)
  case atStart => exact ⟨0, rfl, Nat.zero_le _, NBuf.nil B0 _ _⟩
  case round =>
    obtain ⟨k, rfl, hk, hnb⟩ := hrel
    obtain ⟨A2, c2, rfl, hc2⟩ := hnb.buf.shape
    clear B0
    by_cases hgo : k < L.length
    · obtain ⟨m, hmk⟩ : ∃ m, L[k]? = some m := ⟨_, List.getElem?_eq_getElem hgo⟩
      obtain ⟨bb, o, x, rfl, _, hxm, hma, c0, c1, c2', c3, c4, c5, c6, c7⟩ := (h.below hnb.below).at_ hmk
      have hft : scs ((L.take (k + 1)).map (·.id)) = scs ((L.take k).map (·.id)) ++ [.string (bs m.id)] := by
        rw [List.take_add_one, hmk, Option.toList_some, List.map_append, scs_append]; rfl
      have HFT := Lib.hid hft
      clear hmk hxm hma hft
      have hci : (0 : Int) ≤ (k : Int) := by omega
      have hnb1 := hnb.alloc (.cells #[.string (bs m.id), .int .i64 m.mn, .int .i64 m.mx, .int .i64 m.lv, .int .i64 m.sr, .int .i64 m.sm, .slice x.fa m.fs.length x.fc, .slice x.sa m.ss.length x.sc] 55)
      clear hnb
      go_wp2_with (at_builtin; refine wpList_append_nlit rfl (.tmp 13) (.tmp 16) 43 rfl str_ty rfl hnb1 rfl (by simp) rfl (by simp [Value.oneCell']) (by simp only [maxLen]; omega) (by omega) ?_; intro v3 w5 hnb5 _)
      go_roundw
      case rel => exact ⟨k + 1, by go_num, by omega, by rw [HFT.out]; exact hnb5⟩
      case measure => simp [intOf]; omega
    · obtain rfl : k = L.length := by omega
      rw [List.take_length] at hnb
      obtain ⟨I, hI⟩ : ∃ I, I = L.map (·.id) := ⟨_, rfl⟩
      have hIl : L.length = I.length := by rw [hI, List.length_map]
      rw [← hI] at hnb
      have HI := Lib.hid hI
      clear hI
      have hc : Calls Try.prog 31 #[.slice A2 L.length c2] wr fun e w' => e = .returned (.tuple #[]) ∧ NBuf w w' 9 1 (.slice A2 L.length c2) (srtS I).length (scs (srtS I)) := by
        rw [srtS_len]
        rw [hIl] at hnb ⊢
        rcases Nat.eq_zero_or_pos I.length with h0 | h0
        · obtain rfl : I = [] := List.eq_nil_of_length_eq_zero h0
          refine (Try.slices_Sort_string_none A2 c2 wr).mono ?_
          rintro e w' ⟨rfl, rfl⟩
          exact ⟨rfl, by rw [show srtS [] = [] from List.eq_nil_of_length_eq_zero (srtS_len [])]; exact hnb⟩
        · obtain ⟨bb, o, hA2, hlt⟩ := hnb.buf.some_at h0
          subst hA2
          refine (Try.slices_Sort_string bb o c2 I wr (Buf.holds Go.Proofs.encStr hnb.buf) hlt (by omega)).mono ?_
          rintro e w' ⟨rfl, n, os, rfl⟩
          have hb := Buf.sortRow Go.Proofs.encStr hnb.buf n (srtS I).toArray (by rw [List.size_toArray, srtS_len]) h0 os
          refine ⟨rfl, ?_, grown_below hnb.below (heap_sortRow Go.Proofs.encStr n (srtS I).toArray os hlt) (hnb.new bb rfl) (Nat.le_refl _), hnb.new⟩
          exact hb
      have HC := Lib.hid hc
      clear hc hnb hIl
      go_wp2_with fail
      refine HC.out.mono ?_
      rintro e w' ⟨rfl, hn⟩
      have HN := Lib.hid hn
      clear hn
      go_wp2_with fail
      go_ret
      exact ⟨_, rfl, by rw [← HI.out]; exact HN.out⟩
end Go.Proofs.Ytemmgejaoegpfaa
