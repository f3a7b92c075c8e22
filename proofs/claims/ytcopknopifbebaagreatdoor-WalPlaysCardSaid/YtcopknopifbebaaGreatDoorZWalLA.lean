/-
  Law 11 (wal): few records; are records the same; the first ones of some.
-/
import Derived.Test.YtcopknopifbebaaGreatDoorZWalAB
import Derived.Test.YtcopknopifbebaaGreatDoorZWalEB
import Derived.Test.YtcopknopifbebaaGreatDoorZWalU
import Derived.KernelRfl
import Derived.Test.YtcopknopifbebaaGreatDoorZLib5
import Derived.Test.YtcopknopifbebaaGreatDoorZLib4
import Derived.Test.YtcopknopifbebaaGreatDoorZLib2
import Derived.Test.YtcopknopifbebaaGreatDoorZShelf
import Derived.Test.YtcopknopifbebaaGreatDoorRows
import Derived.LaidMore
import Derived.Lay
import Derived.Stop.Joined
import Derived.Stop.LaidErr
import Derived.ChangeSame
import Derived.OpenShut

namespace Go.Bar.Wal
open Go.RowKit Go.Bar Go.Bar.Leb Go.Bar.Frm
def cutR (m : Nat) (r : Rc) : Rc := (r.1 &&& 127, r.2.take m)
def cutL (m : Nat) (rs : List Rc) : List Rc := rs.map (cutR m)
def few4 (rs : List Rc) : List Rc := cutL 30 (rs.take 4)
theorem cut_next {m : Nat} {rs : List Rc} {k : Nat} {r : Rc} (h : rs[k]? = some r) : cutL m (rs.take (k + 1)) = cutL m (rs.take k) ++ [cutR m r] := by
  unfold cutL
  rw [List.take_add_one, h, Option.toList_some, List.map_append]; rfl
theorem and127 (k : UInt8) : bits .and .u8 (k.toNat : Int) 127 = ((k &&& 127).toNat : Int) := by
  have h : ∀ n : Fin 256, bits .and .u8 ((n.val : Nat) : Int) 127 = ((UInt8.ofNat n.val &&& 127).toNat : Int) := by decide +kernel
  have h2 := h ⟨k.toNat, k.toNat_lt⟩
  simpa using h2
theorem and127_ne (k : UInt8) : k &&& 127 ≠ 255 := by
  have h : ∀ n : Fin 256, UInt8.ofNat n.val &&& 127 ≠ 255 := by decide +kernel
  have h2 := h ⟨k.toNat, k.toNat_lt⟩
  simpa using h2
theorem few4_len (rs : List Rc) : (few4 rs).length ≤ 4 := by unfold few4 cutL; rw [List.length_map, List.length_take]; omega
theorem cutL_dat (m : Nat) (rs : List Rc) : ∀ r ∈ cutL m rs, r.2.length ≤ m ∧ r.1 ≠ 255 := fun r hr => by
  obtain ⟨q, _, rfl⟩ := List.mem_map.1 hr
  exact ⟨by show (q.2.take m).length ≤ m; rw [List.length_take]; omega, and127_ne _⟩
end Go.Bar.Wal
namespace Go.Proofs.YtcopknopifbebaaGreatDoor
open Go.RowKit Go.Bar Go.Bar.Wal Go.Bar.Leb Go.Bar.Frm Go.Conc
attribute [local go_sem] Oper.semAt_some

set_option maxHeartbeats 1000000 in
set_option maxRecDepth 10000 in
theorem few11_any (v : Value) (rs : List Rc) (w : World) (h : RecsAt w v rs) (hsz : ∀ r ∈ rs, r.2.length ≤ maxLen) : Calls Tryz.prog 16 #[v] w (RetRecs w (few4 rs)) := by
  obtain ⟨A, c, rfl, hlc, hcm⟩ := h.shape
  unfold maxLen at hcm
  go_enter Tryz.func16, Tryz.ntmps16
  go_wp2_with fail
  go_loopw [3, 4] (fun s i wr => ∃ k : Nat, k ≤ rs.length ∧ k ≤ 4 ∧ i = .int .i64 k ∧ App (w.alloc (.cells #[] 34)) (.slice (some ⟨w.heap.size, 0, none⟩) 0 0) 34 2 0 [] wr s (cutL 30 (rs.take k)).length (frcs (cutL 30 (rs.take k)))) (fun _ i _ => 4 - (intOf i).toNat)
  case atStart => exact ⟨0, Nat.zero_le _, by omega, rfl, App.lit0 w _ _⟩
  case round =>
    obtain ⟨k, hk, hk6, rfl, happ⟩ := hrel
    have hbl := happ.below_lit0
    by_cases hgo : k < rs.length ∧ k < 4
    · obtain ⟨hk1, hk2⟩ := hgo
      obtain ⟨⟨kd, d⟩, hki⟩ : ∃ r, rs[k]? = some r := ⟨_, List.getElem?_eq_getElem hk1⟩
      have hn := cut_next (m := 30) hki
      have hcl : (cutL 30 (rs.take k)).length ≤ 4 := by simp [cutL]; omega
      obtain ⟨b, o, rfl, hlt, c0, c1⟩ := (h.below hbl).at_ hki
      have hd := hsz _ (List.mem_of_getElem? hki)
      simp only at hd
      have HN := Lib.hid hn
      have hand := and127 kd
      have hci : (0 : Int) ≤ (k : Int) := by omega
      have hci2 : (k : Int) < rs.length := by omega
      clear hn hki
      go_wp2_with fail
      go_region_law (first
        | (((rw [if_pos (by rfl)]); go_simp; go_at_call 31; refine (cut_any (bs d) 30 _ (by omega) (by omega) (by rw [bs_size]; exact hd)).mono ?_; rintro e w' ⟨rfl, rfl⟩; dsimp only))
        | ((refine step_append_app (by rfl) (.tmp 16) (.tmp 30) _ (by rfl) rec_ty (by rfl) ((happ.alloc _).drew) (by rfl) (Src.drew_ (Buf.lit wr 34 2 1 [.int .u8 (kd &&& 127).toNat, .string (bs (d.take 30))] rfl (by decide)) rec_ty.slice (by simp [Value.oneCell'])) (by simp only [maxLen]; omega) (by omega) ?_; intro v2 w2 happ2)))
      all_goals
        go_wp2_with fail
        go_roundw
        case rel => exact ⟨k + 1, by omega, by omega, by go_num, by rw [HN.out, List.length_append]; show App _ _ _ _ _ _ _ _ _ (frcs (_ ++ [((kd &&& 127), d.take 30)])); rw [frcs_snoc]; exact happ2⟩
        case measure => simp [intOf]; omega
    · have hend : rs.length ≤ k ∨ k < rs.length ∧ 4 ≤ k := by omega
      have he : cutL 30 (rs.take k) = few4 rs := by
        unfold few4
        rcases hend with h1 | h1
        · rw [List.take_of_length_le h1, List.take_of_length_le (by omega)]
        · rw [show k = 4 by omega]
      rw [he] at happ
      have hbuf := happ.buf
      rw [Nat.zero_add, List.nil_append] at hbuf
      clear hgo he happ
      rcases hend with h1 | ⟨h1, h2⟩
      all_goals
        go_wp2_with fail
        go_ret
        exact ⟨_, rfl, hbuf, hbl⟩
def sameR (a b : List Rc) : Int := if a = b then 0 else -1
set_option maxHeartbeats 1000000 in
set_option maxRecDepth 10000 in
theorem same11_any (v u : Value) (rs qs : List Rc) (w : World) (h : RecsAt w v rs) (h' : RecsAt w u qs) : Calls Tryz.prog 15 #[v, u] w (Quiet w (.int .i64 (sameR rs qs))) := by
  obtain ⟨A, c, rfl, hlc, hcm⟩ := h.shape
  obtain ⟨A2, c2, rfl, hlc2, hcm2⟩ := h'.shape
  unfold maxLen at hcm hcm2
  by_cases hl : rs.length = qs.length
  · have hres : ∀ k, k ≤ qs.length → rs.take k = qs.take k → (∀ x y, rs[k]? = some x → qs[k]? = some y → x ≠ y → sameR rs qs = -1) := fun k hk he x y hx hy hxy => by
      unfold sameR
      rw [if_neg]
      intro e
      rw [e, hy] at hx
      injection hx with hx
      exact hxy hx.symm
    have hall : rs.take qs.length = qs.take qs.length → sameR rs qs = 0 := fun he => by
      rw [← hl, List.take_length, hl, List.take_length] at he
      unfold sameR
      rw [if_pos he]
    obtain ⟨R, hR⟩ : ∃ R, R = sameR rs qs := ⟨_, rfl⟩
    rw [← hR]
    rw [← hR] at hall
    simp only [← hR] at hres
    replace hall := Lib.hid hall
    replace hres := Lib.hid hres
    clear hR
    go_enter Tryz.func15, Tryz.ntmps15
    go_wp2_with fail
    go_loopw [13] (fun i wr => ∃ k n : Nat, k ≤ qs.length ∧ i = .int .i64 k ∧ wr = w.drewN n ∧ Hid (rs.take k = qs.take k)) (fun i _ => qs.length - (intOf i).toNat)
    case atStart => exact ⟨0, 0, Nat.zero_le _, rfl, rfl, rfl⟩
    case round =>
      obtain ⟨k, n, hk, rfl, rfl, hpre⟩ := hrel
      by_cases hgo : k < qs.length
      · obtain ⟨⟨kd, d⟩, hki⟩ : ∃ r, rs[k]? = some r := ⟨_, List.getElem?_eq_getElem (by omega)⟩
        obtain ⟨⟨kd2, d2⟩, hki2⟩ : ∃ r, qs[k]? = some r := ⟨_, List.getElem?_eq_getElem hgo⟩
        obtain ⟨b, o, rfl, hlt, c0, c1⟩ := h.at_ hki
        obtain ⟨b2, o2, rfl, hlt2, c2, c3⟩ := h'.at_ hki2
        have hci : (0 : Int) ≤ (k : Int) := by omega
        have hci2 : (k : Int) < rs.length := by omega
        have hci3 : (k : Int) < qs.length := by omega
        by_cases heq : kd = kd2 ∧ d = d2
        · obtain ⟨rfl, rfl⟩ := heq
          have hst : Hid (rs.take (k + 1) = qs.take (k + 1)) := by
            have := hpre.out
            show rs.take (k + 1) = qs.take (k + 1)
            rw [List.take_add_one, List.take_add_one, hki, hki2, this]
          clear hki hki2
          go_wp2_with fail
          go_quiet (fail)
          go_wp2_with fail
          go_roundw
          case rel => exact ⟨k + 1, n + nq, by omega, by go_num, rfl, hst⟩
          case measure => simp [intOf]; omega
        · have hst := Lib.hid (hres.out k hk hpre.out _ _ hki hki2 (fun e => heq (by injection e with e1 e2; exact ⟨e1, e2⟩)))
          clear hki hki2
          by_cases hkd : kd = kd2
          · subst hkd
            have hd1 : ¬ d = d2 := fun e => heq ⟨rfl, e⟩
            have hd2 : (d == d2) = false := by simpa using hd1
            clear heq
            go_wp2_with fail
            go_quiet (fail)
            go_wp2_with fail
            go_ret
            exact ⟨by rw [hst.out]; rfl, n + nq, by simp⟩
          · have hk1 : ¬ kd.toNat = kd2.toNat := fun e => hkd (UInt8.toNat_inj.1 e)
            have hk2 : ¬ (kd.toNat : Int) = kd2.toNat := by omega
            clear heq
            go_wp2_with fail
            go_quiet (fail)
            go_wp2_with fail
            go_ret
            exact ⟨by rw [hst.out]; rfl, n + nq, by simp⟩
      · have hke : k = qs.length := by omega
        subst hke
        have h0 := Lib.hid (hall.out hpre.out)
        clear hgo
        go_wp2_with fail
        go_ret
        exact ⟨by rw [h0.out]; rfl, n, rfl⟩
  · have hR : sameR rs qs = -1 := by unfold sameR; rw [if_neg (fun e => hl (by rw [e]))]
    rw [hR]
    clear hR
    have hl2 : ¬ (rs.length : Int) = qs.length := by omega
    go_enter Tryz.func15, Tryz.ntmps15
    go_wp2_with fail
    go_ret
    exact ⟨rfl, 0, rfl⟩
theorem RecsAt.take_ {w : World} {A : Option Addr} {c : Nat} {rs : List Rc} (h : RecsAt w (.slice A rs.length c) rs) {k : Nat} (hk : k ≤ rs.length) : RecsAt w (.slice A k c) (rs.take k) := by
  obtain ⟨A', c', he, hc1, hc2⟩ := h.shape
  injection he with _ _ e
  subst e
  have := SlAt.take h k c hk (by omega) hc2
  rw [rcs_take] at this
  unfold RecsAt
  rw [List.length_take, Nat.min_eq_left hk]
  exact this
def prefixB (got ahead more : List Rc) : Bool := decide (ahead.length ≤ got.length ∧ got.length ≤ ahead.length + more.length ∧ got = (ahead ++ more).take got.length)
set_option maxHeartbeats 4000000 in
set_option maxRecDepth 10000 in
theorem prefix_any (v u x : Value) (gs ah ms : List Rc) (w : World) (h1 : RecsAt w v gs) (h2 : RecsAt w u ah) (h3 : RecsAt w x ms) (hl2 : ah.length ≤ 1000000000) (hl3 : ms.length ≤ 1000000000) :
    Calls Tryz.prog 20 #[v, u, x] w (RetBelow w (.bool (prefixB gs ah ms))) := by
  obtain ⟨A1, c1, rfl, hlc1, hcm1⟩ := h1.shape
  obtain ⟨A2, c2, rfl, hlc2, hcm2⟩ := h2.shape
  obtain ⟨A3, c3, rfl, hlc3, hcm3⟩ := h3.shape
  unfold maxLen at hcm1 hcm2 hcm3
  have hno : ¬ (ah.length ≤ gs.length ∧ gs.length ≤ ah.length + ms.length) → prefixB gs ah ms = false := fun hn => decide_eq_false fun e => hn ⟨e.1, e.2.1⟩
  have hyes : ah.length ≤ gs.length → gs.length ≤ ah.length + ms.length → prefixB gs ah ms = (sameR gs ((ah ++ ms).take gs.length) == 0) := fun ha hb => by
    unfold prefixB sameR
    by_cases he : gs = (ah ++ ms).take gs.length
    · rw [if_pos he, decide_eq_true ⟨ha, hb, he⟩]; rfl
    · rw [if_neg he, decide_eq_false (fun e => he e.2.2)]; rfl
  obtain ⟨R, hR⟩ : ∃ R, R = prefixB gs ah ms := ⟨_, rfl⟩
  rw [← hR] at hno hyes ⊢
  clear hR
  by_cases hlow : ah.length ≤ gs.length
  · by_cases hhigh : gs.length ≤ ah.length + ms.length
    · have hr := Lib.hid (hyes hlow hhigh)
      clear hno hyes
      have hb0 : Below w.heap.size w (w.alloc (.cells #[] 34)) := (Below.refl _ _).alloc (Nat.le_refl _) _
      have hs2 := Lib.hid ((SlAt.below h2 hb0).src (P := Tryz.prog) (by decide) (t := 23) Tryz.underlying23 (frcs_one ah))
      have hz := Lib.hid (NBuf.lit0 (Below.refl _ w) 34 2)
      have hI1 : (ah.length : Int) ≤ gs.length := by omega
      have hI2 : (gs.length : Int) ≤ ah.length + ms.length := by omega
      have hlA : (ah ++ ms).length = ah.length + ms.length := List.length_append
      have H1 := Lib.hid h1
      have H3 := Lib.hid h3
      clear h1 h2 h3
      go_enter Tryz.func20, Tryz.ntmps20
      go_upto_region 4 with (first
        | (at_builtin; refine wpList_append_el rfl (.tmp 23) (.tmp 24) 23 23 rfl rec_ty rfl hz.out.buf rfl hs2.out (by simp only [maxLen]; omega) (by omega) ?_; intro v5 w5 hb5 ha5 hg5; have hn5 := Lib.hid (hz.out.step hb5 ha5 hg5); clear hb5 ha5 hg5)
        | (at_builtin; refine wpList_append_el rfl (.tmp 25) (.tmp 26) 23 23 rfl rec_ty rfl hn5.out.buf rfl ((SlAt.below H3.out hn5.out.below).src (P := Tryz.prog) (by decide) (t := 23) Tryz.underlying23 (frcs_one ms)) (by simp only [maxLen]; omega) (by omega) ?_; intro v6 w6 hb6 ha6 hg6; have hn6 := hn5.out.step hb6 ha6 hg6; clear hb6 ha6 hg6))
      rw [List.nil_append, Nat.zero_add, ← frcs_append, ← hlA] at hn6
      obtain ⟨A8, c8, rfl, hlc8, hcm8⟩ := hn6.slice.shape
      unfold maxLen at hcm8
      have hall : RecsAt w6 (.slice A8 (ah ++ ms).length c8) (ah ++ ms) := hn6.slice
      have htk := Lib.hid (RecsAt.take_ hall (k := gs.length) (by omega))
      have hgot := Lib.hid (RecsAt.below H1.out hn6.below)
      have hbw := Lib.hid hn6.below
      have hsame := Lib.hid (same11_any _ _ _ _ w6 hgot.out htk.out)
      obtain ⟨ie, hie1, hie2, hie3⟩ := rec_ty.info
      have hsl := fun w => run_slice_t (a := A8) (n := (ah ++ ms).length) (c := c8) Tryz.underlying23 hie1 hie3.1 gs.length (by omega) w
      obtain ⟨X, hX⟩ : ∃ X, X = sameR gs ((ah ++ ms).take gs.length) := ⟨_, rfl⟩
      rw [← hX] at hsame hr
      clear hX hn6 hall htk hn5 hz hs2
      go_wp2_with (go_at_call 15; refine hsame.out.mono ?_; rintro e w7 ⟨rfl, q, rfl⟩)
      go_ret
      exact ⟨by rw [hr.out]; rfl, hbw.out.trans (below_draws _ _ |>.mono hbw.out.size)⟩
    · have hr := Lib.hid (hno (fun e => hhigh e.2))
      clear hno hyes
      have hI2 : ¬ (gs.length : Int) ≤ ah.length + ms.length := by omega
      have hI3 : (ah.length : Int) + ms.length < gs.length := by omega
      have hI1 : (ah.length : Int) ≤ gs.length := by omega
      go_enter Tryz.func20, Tryz.ntmps20
      go_wp2_with fail
      go_ret
      exact ⟨by rw [hr.out]; rfl, Below.refl _ _⟩
  · have hr := Lib.hid (hno (fun e => hlow e.1))
    clear hno hyes
    have hI1 : (gs.length : Int) < ah.length := by omega
    go_enter Tryz.func20, Tryz.ntmps20
    go_wp2_with fail
    go_ret
    exact ⟨by rw [hr.out]; rfl, Below.refl _ _⟩
end Go.Proofs.YtcopknopifbebaaGreatDoor

namespace Go.Bar.Wal
open Go.RowKit Go.Bar Go.Bar.Leb Go.Bar.Frm
def awAB : List Rc := [(1, [97]), (1, [98])]
def awC : List Rc := [(1, [99])]
def awG (n : Nat) (b : Bool) : Lg := ⟨100, 1, n, b⟩
def awD (s : List UInt8) (sure : Nat) (u : Int) (z : Fz) : Ds := ⟨[(segN 1, ⟨s, sure⟩)], 1000, u, z⟩
theorem awL : (laid awAB).length = 14 ∧ (laid awC).length = 7 := by decide +kernel
theorem aw_seven : segN 7 = [119, 97, 108, 45, 48, 48, 48, 48, 48, 48, 48, 55] := by decide +kernel
theorem aw1 : wAppend (Ds.new 1000) (awG 0 false) awAB = (0, awD (laid awAB) 14 14 Fz.none_, awG 14 false) := by
  kernel_rfl
theorem aw2 : (awD (laid awAB) 14 14 Fz.none_).fz.arm 1 false = (0, ⟨[(1, false)], none⟩) := by kernel_rfl
theorem aw3 : wAppend (awD (laid awAB) 14 14 ⟨[(1, false)], none⟩) (awG 14 false) awC = (8, awD (laid awAB ++ laid awC) 14 21 Fz.none_, awG 21 true) := by
  kernel_rfl
theorem aw4 : wAppend (awD (laid awAB ++ laid awC) 14 21 Fz.none_) (awG 21 true) awC = (9, awD (laid awAB ++ laid awC) 14 21 Fz.none_, awG 21 true) := by
  kernel_rfl
theorem aw5 : (awD (laid awAB ++ laid awC) 14 21 Fz.none_).crash [] = awD (laid awAB) 14 14 Fz.none_ := by
  kernel_rfl
theorem aw6 : ∃ d' g', wOpen (awD (laid awAB) 14 14 Fz.none_) 100 = (0, d', g', awAB) := by
  have hs : Srt (awD (laid awAB) 14 14 Fz.none_).fs := List.pairwise_singleton _ _
  obtain ⟨d', g, h, _⟩ := opens hs rfl 100 (fun p hp => by
    have : p = (segN 1, ⟨laid awAB, 14⟩) := by simpa [awD] using hp
    rw [this]
    show 14 ≤ (laid awAB).length
    rw [awL.1]; decide)
  refine ⟨d', g, ?_⟩
  rw [h]
  have e : since (refAll (awD (laid awAB) 14 14 Fz.none_).fs) = awAB := by
    decide +kernel
  rw [e]
theorem aw_acc : Acc 1 (awD (laid awAB) 14 14 Fz.none_) := by
  have := (Acc.new 1000).wAppend (awG 0 false) awAB
  rw [aw1] at this
  exact this
theorem aw_acc3 : Acc 2 (awD (laid awAB ++ laid awC) 14 21 Fz.none_) := by
  have h1 := aw_acc.fuse (z := ⟨[(1, false)], none⟩) (by decide)
  have := Acc.wAppend (d := awD (laid awAB) 14 14 ⟨[(1, false)], none⟩) h1 (awG 14 false) awC
  rw [aw3] at this
  exact this
end Go.Bar.Wal

namespace Go.Bar.Wal
open Go.RowKit Go.Bar Go.Bar.Leb Go.Bar.Frm Go.Proofs
theorem nl_rec : ¬ LTs 34 := fun c => by
  rcases c with c | c
  · rcases c with c | c | c <;> exact absurd c (by decide)
  · exact absurd c (by decide)
end Go.Bar.Wal
namespace Go.Proofs.YtcopknopifbebaaGreatDoor
open Go.RowKit Go.Bar Go.Bar.Wal Go.Bar.Leb Go.Bar.Frm Go.Conc
attribute [local go_sem] Oper.semAt_some

theorem open_ok (w : World) (h : Hd) (d : Ds) (B c : Nat) (limit : Int) (d' : Ds) (g' : Lg) (got : List Rc) (hw : wOpen d limit = (0, d', g', got)) (k : DkAt w h d) (hE : EnvAt w) (hB : h.Hi B) (hB4 : 4 ≤ B) (ha : Wal.Acc c d) (hc : c ≤ 10000) (hr : d.room ≤ 10000000) :
    Calls Tryz.prog 12 #[.pointer (some ⟨h.D, 0, none⟩), .int .i64 limit] w fun en w' => ∃ L A cp, en = .returned (.tuple #[.pointer (some ⟨L, 0, none⟩), .slice A got.length cp, .int .i64 0]) ∧ DkAt w' h d' ∧ LgAt w' L h g' ∧ B ≤ L ∧ Off LTs B w w' ∧ Buf w' 34 2 (.slice A got.length cp) got.length (frcs got) := by
  have hB0 := hiA k hB
  refine (lOpen_any w h d B c limit k hE hB hB4 ha hc hr).mono ?_
  rw [hw]
  rintro en w' ⟨k', o', hh⟩
  rcases hh with ⟨hh, _⟩ | ⟨_, L, v, rfl, l', hL, hbuf⟩
  · exact absurd rfl hh
  · obtain ⟨A, cp, rfl, _⟩ := hbuf.shape
    exact ⟨L, A, cp, rfl, k', l', Nat.le_trans hB0 hL, o', hbuf⟩
theorem append_ok (w : World) (L : Nat) (h : Hd) (d : Ds) (g : Lg) (B c : Nat) (v : Value) (rs : List Rc) (e : Nat) (d' : Ds) (g' : Lg) (hw : wAppend d g rs = (e, d', g')) (k : DkAt w h d) (kl : LgAt w L h g) (hE : EnvAt w) (hB : h.Hi B) (hL : B ≤ L) (hB4 : 4 ≤ B) (ha : Wal.Acc c d) (hc : c ≤ 100000) (hr : d.room ≤ 10000000)
    (hv : RecsAt w v rs) (hn : rs.length ≤ 20) (hs : ∀ r ∈ rs, r.2.length ≤ 1000) (hg1 : 1 ≤ g.limit) (hg2 : g.limit ≤ 9223372036854775807) (hg3 : g.seg ≤ 1000000) (hg4 : g.size ≤ 1000000000) :
    Calls Tryz.prog 14 #[.pointer (some ⟨L, 0, none⟩), v] w fun en w' => en = .returned (.int .i64 (e : Nat)) ∧ DkAt w' h d' ∧ LgAt w' L h g' ∧ Off LTs B w w' := by
  refine (lAppend_any w L h d g B c v rs k kl hE hB hL hB4 ha hc hr hv hn hs hg1 hg2 hg3 hg4).mono ?_
  rw [hw]
  rintro en w' ⟨h1, h2, h3, h4⟩
  exact ⟨h1, h2, h3, h4⟩
set_option maxHeartbeats 8000000 in
set_option maxRecDepth 10000 in
theorem awake11_any (w : World) (hE : EnvAt w) : Calls Tryz.prog 17 #[] w (RetBelow w (.bool true)) := by
  have hB4 := hE.four
  obtain ⟨B, hBe⟩ : ∃ B, B = w.heap.size := ⟨_, rfl⟩
  rw [← hBe] at hB4
  have hE0 := Lib.hid hE
  have hnew := Lib.hid (new_any w 1000)
  rw [← hBe] at hnew
  have hopen1 := Lib.hid (fun wx h (kx : DkAt wx h (Ds.new 1000)) hx (hB : h.Hi B) => open_ok wx h (Ds.new 1000) B 0 100 (Ds.new 1000) (awG 0 false) [] (open_new 1000 100).1 kx hx hB hB4 (Acc.new 1000) (by decide) (by decide))
  have happ1 := Lib.hid (fun wx L h v (kx : DkAt wx h (Ds.new 1000)) (lx : LgAt wx L h (awG 0 false)) hx (hB : h.Hi B) (hL : B ≤ L) (hv : RecsAt wx v awAB) => append_ok wx L h _ _ B 0 v awAB _ _ _ aw1 kx lx hx hB hL hB4 (Acc.new 1000) (by decide) (by decide) hv (by decide) (by decide) (by decide) (by decide) (by decide) (by decide))
  have harm := Lib.hid (fun wx h (kx : DkAt wx h (awD (laid awAB) 14 14 Fz.none_)) (hB : h.Hi B) => arm_any wx h _ B 1 false kx hB (by decide))
  have happ2 := Lib.hid (fun wx L h v (kx : DkAt wx h (awD (laid awAB) 14 14 ⟨[(1, false)], none⟩)) (lx : LgAt wx L h (awG 14 false)) hx (hB : h.Hi B) (hL : B ≤ L) (hv : RecsAt wx v awC) => append_ok wx L h _ _ B 1 v awC _ _ _ aw3 kx lx hx hB hL hB4 (aw_acc.fuse (z := ⟨[(1, false)], none⟩) (by decide)) (by decide) (by decide) hv (by decide) (by decide) (by decide) (by decide) (by decide) (by decide))
  have happ3 := Lib.hid (fun wx L h v (kx : DkAt wx h (awD (laid awAB ++ laid awC) 14 21 Fz.none_)) (lx : LgAt wx L h (awG 21 true)) hx (hB : h.Hi B) (hL : B ≤ L) (hv : RecsAt wx v awC) => append_ok wx L h _ _ B 2 v awC _ _ _ aw4 kx lx hx hB hL hB4 aw_acc3 (by decide) (by decide) hv (by decide) (by decide) (by decide) (by decide) (by decide) (by decide))
  obtain ⟨d6, g6, hw6⟩ := aw6
  have hcr := Lib.hid (fun wx h (kx : DkAt wx h (awD (laid awAB ++ laid awC) 14 21 Fz.none_)) (hB : h.Hi B) => crash_any wx h _ B 2 kx hB aw_acc3 (by decide) (by decide) none 0 [] (by decide) (fun w' _ => SlAt.of_buf (Buf.nil w' 3 1)))
  have hopen2 := Lib.hid (fun wx h (kx : DkAt wx h (awD (laid awAB) 14 14 Fz.none_)) hx (hB : h.Hi B) => open_ok wx h _ B 1 100 d6 g6 awAB hw6 kx hx hB hB4 aw_acc (by decide) (by decide))
  replace hopen2 : Hid (∀ wx h, DkAt wx h (awD (laid awAB) 14 14 Fz.none_) → EnvAt wx → h.Hi B → Calls Tryz.prog 12 #[.pointer (some ⟨h.D, 0, none⟩), .int .i64 100] wx fun en w' => ∃ L A cp, en = .returned (.tuple #[.pointer (some ⟨L, 0, none⟩), .slice A 2 cp, .int .i64 0]) ∧ DkAt w' h d6 ∧ LgAt w' L h g6 ∧ B ≤ L ∧ Off LTs B wx w' ∧ Buf w' 34 2 (.slice A 2 cp) 2 (frcs awAB)) := hopen2
  rw [aw2] at harm
  rw [aw5] at hcr
  have hEx : ∀ wx, Below B w wx → EnvAt wx := fun wx hb => hE.bel hb hB4
  replace hEx := Lib.hid hEx
  clear hE hw6
  go_enter Tryz.func17, Tryz.ntmps17
  go_upto_region 5 with (first
    | (go_at_call 11; refine hnew.out.mono ?_; rintro e w1 ⟨h, rfl, k1, hB, hb1⟩)
    | (go_at_call 12; refine (hopen1.out w1 h k1 (hEx.out _ hb1) hB).mono ?_; rintro e w2 ⟨L, A, cp, rfl, k2, l2, hL, o2, _⟩))
  go_upto_region 6 with fail
  have hba : Below w2.heap.size w2 (((w2.alloc (.cells #[.int .u8 1, .string { data := #[97] }] 34)).alloc (.cells #[.int .u8 1, .string { data := #[98] }] 34)).alloc (.cells #[.int .u8 1, .string { data := #[99] }] 34)) := (((Below.refl _ w2).alloc (Nat.le_refl _) _).alloc (by simp) _).alloc (by simp; omega) _
  have BA : Blk (((w2.alloc (.cells #[.int .u8 1, .string { data := #[97] }] 34)).alloc (.cells #[.int .u8 1, .string { data := #[98] }] 34)).alloc (.cells #[.int .u8 1, .string { data := #[99] }] 34)) w2.heap.size 34 #[.int .u8 1, .string { data := #[97] }] := ((blk_at rfl).alloc _).alloc _
  have BB : Blk (((w2.alloc (.cells #[.int .u8 1, .string { data := #[97] }] 34)).alloc (.cells #[.int .u8 1, .string { data := #[98] }] 34)).alloc (.cells #[.int .u8 1, .string { data := #[99] }] 34)) (w2.heap.size + 1) 34 #[.int .u8 1, .string { data := #[98] }] := (blk_at (by simp)).alloc _
  have BC : Blk (((w2.alloc (.cells #[.int .u8 1, .string { data := #[97] }] 34)).alloc (.cells #[.int .u8 1, .string { data := #[98] }] 34)).alloc (.cells #[.int .u8 1, .string { data := #[99] }] 34)) (w2.heap.size + 1 + 1) 34 #[.int .u8 1, .string { data := #[99] }] := blk_at (by simp)
  obtain ⟨w3, hw3⟩ : ∃ w3, w3 = (((w2.alloc (.cells #[.int .u8 1, .string { data := #[97] }] 34)).alloc (.cells #[.int .u8 1, .string { data := #[98] }] 34)).alloc (.cells #[.int .u8 1, .string { data := #[99] }] 34)) := ⟨_, rfl⟩
  rw [← hw3] at hba BA BB BC ⊢
  clear hw3
  have k3 := k2.below hba
  have l3 := l2.below hba
  have o1 : Off LTs B w w1 := ⟨Kc.of_below (by have := hb1; rwa [hBe] at this), hb1⟩
  have o3 : Off LTs B w w3 := o1.trans (o2.trans (Off.of_below hba (hiA k2 hB)))
  have al : ∀ wx (o : Obj), Below wx.heap.size wx (wx.alloc o) := fun wx o => (Below.refl _ _).alloc (Nat.le_refl _) o
  have AL := Lib.hid al
  clear hba k2 l2 o2 k1 hb1 al hnew hopen1
  obtain ⟨a0, a1⟩ := Blk.c2 BA
  obtain ⟨b0, b1⟩ := Blk.c2 BB
  have K3 := Lib.hid k3
  have L3 := Lib.hid l3
  have O3 := Lib.hid o3
  have HBC := Lib.hid BC
  have HBB := Lib.hid BB
  clear k3 l3 o3 BA BB BC
  have lit1 : ∀ wx : World, Hid (RecsAt (wx.alloc (.cells #[.int .u8 1, .string { data := #[97] }, .int .u8 1, .string { data := #[98] }] 34)) (.slice (some ⟨wx.heap.size, 0, none⟩) 2 2) awAB) := fun wx => SlAt.of_buf (Buf.lit wx 34 2 2 [.int .u8 1, .string (bs [97]), .int .u8 1, .string (bs [98])] rfl (by decide))
  have lit2 : ∀ wx : World, Hid (RecsAt (wx.alloc (.cells #[.int .u8 1, .string { data := #[99] }] 34)) (.slice (some ⟨wx.heap.size, 0, none⟩) 1 1) awC) := fun wx => SlAt.of_buf (Buf.lit wx 34 2 1 [.int .u8 1, .string (bs [99])] rfl (by decide))
  have LIT1 := Lib.hid lit1
  have LIT2 := Lib.hid lit2
  clear lit1 lit2
  have d2l : ∀ T, DT0 T → LTs T := fun T h => dlt T (dt0 T h)
  have D2L := Lib.hid d2l
  clear d2l
  go_upto_region 8 with (first
    | (go_at_call 14; refine (happ3.out _ L h _ (k6.below (AL.out _ _)) (l6.below (AL.out _ _)) (hEx.out _ ((O3.out.trans P6.out).trans (Off.of_below (AL.out _ _) (hiA k6 hB))).bel) hB hL (LIT2.out _).out).mono ?_; rintro e w7 ⟨rfl, k7, l7, o7⟩; have P7 := Lib.hid (P6.out.trans ((Off.of_below (AL.out _ _) (hiA k6 hB)).trans o7)))
    | (go_at_call 14; refine (happ2.out _ L h _ (k5.below (AL.out _ _)) (l5.below (AL.out _ _)) (hEx.out _ ((O3.out.trans P5.out).trans (Off.of_below (AL.out _ _) (hiA k5 hB))).bel) hB hL (LIT2.out _).out).mono ?_; rintro e w6 ⟨rfl, k6, l6, o6⟩; have P6 := Lib.hid (P5.out.trans ((Off.of_below (AL.out _ _) (hiA k5 hB)).trans o6)); obtain ⟨e0, e1⟩ := Blk.c2 (P6.out.kc.blk HBC.out nl_rec))
    | (go_at_call 18; refine (harm.out _ h k4 hB).mono ?_; rintro e w5 ⟨rfl, k5, o5⟩; have l5 := l4.off (o5.wide dt0); have P5 := Lib.hid (P4.out.trans (o5.wide D2L.out)); obtain ⟨c0, c1⟩ := Blk.c2 (P5.out.kc.blk HBC.out nl_rec))
    | (go_at_call 14; refine (happ1.out _ L h _ (K3.out.below (AL.out _ _)) (L3.out.below (AL.out _ _)) (hEx.out _ (O3.out.trans (Off.of_below (AL.out _ _) (hiA K3.out hB))).bel) hB hL (LIT1.out _).out).mono ?_; rintro e w4 ⟨rfl, k4, l4, o4⟩; have x0 := (d_cells k4).1; have P4 := Lib.hid ((Off.of_below (Ts := LTs) (AL.out _ _) (hiA K3.out hB)).trans o4)))
  go_upto_region 10 with (first
    | (go_at_call 19; refine (hcr.out _ h k7 hB).mono ?_; rintro e w8 ⟨rfl, k8, o8⟩; have P8 := Lib.hid (P7.out.trans (o8.wide dlt)))
    | (go_at_call 12; refine (hopen2.out w8 h k8 (hEx.out _ (O3.out.trans P8.out).bel) hB).mono ?_; rintro e w9 ⟨L9, A9, cp9, rfl, k9, l9, hL9, o9, hb9⟩; have P9 := Lib.hid (P8.out.trans o9)))
  have BB9 := Lib.hid (P9.out.kc.blk HBB.out nl_rec)
  have hE9 := Lib.hid (hEx.out _ (O3.out.trans P9.out).bel)
  have hbel : Below w.heap.size w w9 := by have := (O3.out.trans P9.out).bel; rwa [hBe] at this
  obtain ⟨b9, o9', rfl, hlt9, hc9⟩ := (SlAt.of_buf hb9).cells (by decide)
  have g2 := Lib.hid (hc9 2 (.int .u8 1) rfl)
  have g3 := Lib.hid (hc9 3 (.string (bs [98])) rfl)
  have HLT := Lib.hid hlt9
  clear hc9 hb9 hlt9
  have hn7 : ∀ wx, Below w9.heap.size w9 wx → Calls Tryz.prog 25 #[.int .i64 7] wx (RetBelow wx (.string (bs [119, 97, 108, 45, 48, 48, 48, 48, 48, 48, 48, 55]))) := fun wx hw => by
    have := name_any wx (hE9.out.below hw) 7 (by decide)
    rw [aw_seven] at this
    exact this
  have HN7 := Lib.hid hn7
  clear hn7
  refine wp_region_known [(10, .agg #[.int .u8 1, .string (bs [98])]), (11, .agg #[.int .u8 1, .string (bs [98])]), (15, .string (bs [119, 97, 108, 45, 48, 48, 48, 48, 48, 48, 48, 55]))] (by kernel_rfl) 86 (by kernel_rfl) rfl ?_
  repeat (first
    | (refine Chain.step (v := ?_) (a' := ?_) rfl rfl rfl ?_ ?_ ?_; rotate_left 2; (focus (intro w; go_simp; try with_reducible rfl)); focus (simp only [Act.put, pqA, pqS, pqZ]; try rfl))
    | (refine Chain.call (i := 10) (a' := ?_) _ rfl rfl rfl (fun wx hw => ?_) ?_ ?_; rotate_left 1; (focus (have q2 : wx.cell? ⟨b9, o9' + 2, none⟩ = some (.int .u8 1) := (hw.cell (p := ⟨b9, o9' + 2, none⟩) HLT.out).trans g2.out); (have q3 : wx.cell? ⟨b9, o9' + 2 + 1, none⟩ = some (.string (bs [98])) := (hw.cell (p := ⟨b9, o9' + 3, none⟩) HLT.out).trans g3.out); (go_simp); (first | exact ⟨rfl, rB⟩ | exact rB)); focus (simp only [Act.put, pqA, pqS, pqZ]; try rfl))
    | (refine Chain.call (i := 11) (a' := ?_) _ rfl rfl rfl (fun wx hw => ?_) ?_ ?_; rotate_left 1; (focus (obtain ⟨q2, q3⟩ := Blk.c2 (BB9.out.below hw)); (go_simp); (first | exact ⟨rfl, rB⟩ | exact rB)); focus (simp only [Act.put, pqA, pqS, pqZ]; try rfl))
    | (refine Chain.call (i := 15) (a' := ?_) _ rfl rfl rfl (fun wx hw => ?_) ?_ ?_; rotate_left 1; (focus (go_simp; (with_reducible refine (HN7.out wx hw).mono ?_); exact (fun e w' ⟨h1, h2⟩ => by subst h1; exact ⟨rfl, h2⟩))); focus (simp only [Act.put, pqA, pqS, pqZ]; try rfl))
    | (refine Chain.skip (a' := ?_) rfl rfl rfl ?_ ?_; rotate_left 1; focus (simp only [Act.put, pqA, pqS, pqZ]; try rfl)))
  refine Chain.end_ (fun wy hwy _ => ?_)
  go_wp2_with fail
  go_ret
  exact ⟨rfl, hbel.trans (hwy.mono hbel.size)⟩
end Go.Proofs.YtcopknopifbebaaGreatDoor

namespace Go.Bar.Wal
open Go.RowKit Go.Bar Go.Bar.Leb Go.Bar.Frm
theorem few4_few (rs : List Rc) : Few (few4 rs) ∧ (∀ r ∈ few4 rs, r.2.length ≤ 30) ∧ (few4 rs).length ≤ 4 :=
  ⟨⟨fun r hr => Nat.le_trans (cutL_dat 30 _ r hr).1 (by decide), fun r hr => (cutL_dat 30 _ r hr).2⟩, fun r hr => (cutL_dat 30 _ r hr).1, few4_len rs⟩
theorem wAppend_lim (d : Ds) (g : Lg) (rs : List Rc) : (wAppend d g rs).2.2.limit = g.limit := by
  unfold wAppend
  simp only
  (repeat' split) <;> rfl
theorem wAppend_size (d : Ds) (g : Lg) (rs : List Rc) : (wAppend d g rs).2.2.size ≤ g.size + (laid rs).length := by
  unfold wAppend
  simp only
  (repeat' split) <;> simp only <;> omega
theorem wRestart_size (d : Ds) (g : Lg) (rs : List Rc) : (wRestart d g rs).2.2.size ≤ g.size + (laid (reset rs)).length := by
  unfold wRestart
  simp only
  (repeat' split) <;> simp only <;> omega
end Go.Bar.Wal
namespace Go.Proofs.YtcopknopifbebaaGreatDoor
open Go.RowKit Go.Bar Go.Bar.Wal Go.Bar.Leb Go.Bar.Frm Go.Conc
theorem restart_ok (w : World) (L : Nat) (h : Hd) (d : Ds) (g : Lg) (B c : Nat) (v : Value) (rs : List Rc) (e : Nat) (d' : Ds) (g' : Lg) (hw : wRestart d g rs = (e, d', g')) (k : DkAt w h d) (kl : LgAt w L h g) (hE : EnvAt w) (hB : h.Hi B) (hL : B ≤ L) (hB4 : 4 ≤ B) (ha : Wal.Acc c d) (hc : c ≤ 10000) (hr : d.room ≤ 10000000)
    (hv : RecsAt w v rs) (hn : rs.length ≤ 10) (hs : ∀ r ∈ rs, r.2.length ≤ 1000) (hg3 : g.seg ≤ 1000000) :
    Calls Tryz.prog 27 #[.pointer (some ⟨L, 0, none⟩), v] w fun en w' => en = .returned (.int .i64 (e : Nat)) ∧ DkAt w' h d' ∧ LgAt w' L h g' ∧ Off LTs B w w' := by
  refine (lRestart_any w L h d g B c v rs k kl hE hB hL hB4 ha hc hr hv hn hs hg3).mono ?_
  rw [hw]
  rintro en w' ⟨h1, h2, h3, h4⟩
  exact ⟨h1, h2, h3, h4⟩
end Go.Proofs.YtcopknopifbebaaGreatDoor

namespace Go.Bar
open Go.RowKit Go.ChangeShapes Go.WideShapes Go.Deep

section
variable {H : Type} {enc : TypeId × Value → H} {P : Program} {w : World} {base : Nat} {spare : Nat → Bool} {held : Bool}
theorem open_fields_raw {t e : TypeId} {fs : Array Field} {x : Value} {y : DataW H × List MemPlace} {fuel : Nat} (ht : P.underlying t = some (.slice e)) (he : P.underlying e = some (.struct fs))
    (hone : oneCellFields P fs = true) (hC : P.cellsOf e = fs.size) (hpos : 0 < fs.size) (hf : DataW.trod enc P w base spare held fuel t [x] = some y) :
    ∃ (A : Option Addr) (n c : Nat), x = .slice A n c ∧ n ≤ c ∧ c ≤ maxLen ∧ (0 < n → ∃ b o, A = some ⟨b, o, none⟩ ∧ b < w.heap.size ∧
      ∀ i, i < n → ∀ (j : Nat) (f : Field), fs[j]? = some f → ∃ (x : Value) (y : DataW H × List MemPlace) (k : Nat), w.cell? ⟨b, o + (i * fs.size + j), none⟩ = some x ∧ DataW.trod enc P w base spare held k f.type [x] = some y) := by
  rcases open_slice ht hf with ⟨hcs, _⟩ | ⟨a, len, cap, m, n, D, Pl, hcs, _, hlc, hcm, hm, _, hi⟩
  · simp only [List.cons.injEq, and_true] at hcs
    subst hcs
    exact ⟨none, 0, 0, rfl, Nat.le_refl _, by decide, fun h => absurd h (Nat.lt_irrefl _)⟩
  · simp only [List.cons.injEq, and_true] at hcs
    subst hcs
    refine ⟨some a, len, cap, rfl, hlc, hcm, fun h0 => ?_⟩
    obtain ⟨b, o, spot⟩ := a
    have hread : ∀ i, i < len → ∀ (j : Nat) (f : Field), fs[j]? = some f → ∃ (x : Value) (y : DataW H × List MemPlace) (k : Nat), w.cell? ((Addr.add ⟨b, o, spot⟩ (i * fs.size)).add j) = some x ∧ DataW.trod enc P w base spare held k f.type [x] = some y := by
      intro i hil j f hj
      obtain ⟨cs, hc, hr⟩ := hi i (by rw [hm]; split <;> omega)
      rw [hC] at hc
      obtain ⟨_, hcl, hat⟩ := World.cells?_some hc
      obtain ⟨ys, k, _, _, _, hyl, hg⟩ := DataW.trod_struct he hr
      obtain ⟨ho, hk⟩ := hone_of hone j f hj
      have hjl : j < fs.size := (Array.getElem?_eq_some_iff.1 hj).1
      have h1 := hg j f hj
      rw [ho, hk] at h1
      have hone' : (cs.drop j).take 1 = [cs[j]'(by omega)] := by
        rw [List.drop_eq_getElem_cons (by omega)]
        rfl
      rw [hone'] at h1
      exact ⟨_, _, k, (hat j hjl).trans (List.getElem?_eq_getElem (by omega)), h1.trans (List.getElem?_eq_getElem (by omega))⟩
    have hspot : spot = none := by
      obtain ⟨x, y, k, hat, _⟩ := hread 0 h0 0 _ (Array.getElem?_eq_getElem hpos)
      rw [Nat.zero_mul, show ((Addr.add ⟨b, o, spot⟩ 0).add 0) = (⟨b, o, spot⟩ : Addr) by simp [Addr.add]] at hat
      exact World.cell?_spot hat
    subst hspot
    have hlt : b < w.heap.size := by
      obtain ⟨x, y, k, hat, _⟩ := hread 0 h0 0 _ (Array.getElem?_eq_getElem hpos)
      rw [addr_add, addr_add] at hat
      exact World.block_lt_of_cell? _ _ hat
    refine ⟨b, o, rfl, hlt, fun i hil j f hj => ?_⟩
    obtain ⟨x, y, k, hat, hr⟩ := hread i hil j f hj
    rw [addr_add, addr_add, Nat.add_assoc] at hat
    exact ⟨x, y, k, hat, hr⟩
theorem open_ones_raw {t e : TypeId} {x : Value} {y : DataW H × List MemPlace} {fuel : Nat} (ht : P.underlying t = some (.slice e)) (hC : P.cellsOf e = 1) (hf : DataW.trod enc P w base spare held fuel t [x] = some y) :
    ∃ (A : Option Addr) (n c : Nat), x = .slice A n c ∧ n ≤ c ∧ c ≤ maxLen ∧ (0 < n → ∃ b o, A = some ⟨b, o, none⟩ ∧ b < w.heap.size ∧
      ∀ i, i < n → ∃ (x : Value) (y : DataW H × List MemPlace) (k : Nat), w.cell? ⟨b, o + i, none⟩ = some x ∧ DataW.trod enc P w base spare held k e [x] = some y) := by
  rcases open_slice ht hf with ⟨hcs, _⟩ | ⟨a, len, cap, m, n, D, Pl, hcs, _, hlc, hcm, hm, _, hi⟩
  · simp only [List.cons.injEq, and_true] at hcs
    subst hcs
    exact ⟨none, 0, 0, rfl, Nat.le_refl _, by decide, fun h => absurd h (Nat.lt_irrefl _)⟩
  · simp only [List.cons.injEq, and_true] at hcs
    subst hcs
    refine ⟨some a, len, cap, rfl, hlc, hcm, fun h0 => ?_⟩
    obtain ⟨b, o, spot⟩ := a
    have hread : ∀ i, i < len → ∃ (x : Value) (y : DataW H × List MemPlace) (k : Nat), w.cell? (Addr.add ⟨b, o, spot⟩ i) = some x ∧ DataW.trod enc P w base spare held k e [x] = some y := by
      intro i hil
      obtain ⟨cs, hc, hr⟩ := hi i (by rw [hm]; split <;> omega)
      rw [hC, Nat.mul_one] at hc
      obtain ⟨_, hcl, hat⟩ := World.cells?_some hc
      match cs, hcl with
      | [c0], _ =>
        have := hat 0 (by omega)
        rw [show (Addr.add ⟨b, o, spot⟩ i).add 0 = Addr.add ⟨b, o, spot⟩ i by simp [Addr.add]] at this
        exact ⟨c0, _, _, this, hr⟩
    have hspot : spot = none := by
      obtain ⟨x, y, k, hat, _⟩ := hread 0 h0
      rw [show (Addr.add ⟨b, o, spot⟩ 0) = (⟨b, o, spot⟩ : Addr) by simp [Addr.add]] at hat
      exact World.cell?_spot hat
    subst hspot
    have hlt : b < w.heap.size := by
      obtain ⟨x, y, k, hat, _⟩ := hread 0 h0
      rw [addr_add] at hat
      exact World.block_lt_of_cell? _ _ hat
    refine ⟨b, o, rfl, hlt, fun i hil => ?_⟩
    obtain ⟨x, y, k, hat, hr⟩ := hread i hil
    rw [addr_add] at hat
    exact ⟨x, y, k, hat, hr⟩
end
end Go.Bar

namespace Go.Proofs.YtcopknopifbebaaGreatDoor
open Go.RowKit Go.Bar Go.ChangeShapes Go.WideShapes Go.ChangeAt Go.Deep
theorem g_pow10 : Tryz.prog.globalNamed "internal/strconv.uint64pow10" = some 0 := by kernel_rfl
theorem t_pow10 : (Tryz.prog.globals[0]?).map (·.type) = some 199 := by kernel_rfl
theorem t_range : (Tryz.prog.globals[3]?).map (·.type) = some 130 := by kernel_rfl
theorem t_syntax : (Tryz.prog.globals[2]?).map (·.type) = some 130 := by kernel_rfl
theorem iface_laid {W : World} {n nm : String} {d : DataW Unit} {r : List (String × DataW Unit)} {g : Nat} (h : laidMet Tryz.prog ((n, .iface nm d) :: r) W) (hg : Tryz.prog.globalNamed n = some g) (ht : (Tryz.prog.globals[g]?).map (·.type) = some 130) : ∃ tp p, W.var? Tryz.prog n = some #[.iface tp p] := by
  obtain ⟨ps, ⟨g0, t0, cs0, f0, p0, q0, hg0, ht0, hv0, hd0, _, _⟩, _, _⟩ := h
  obtain rfl := Option.some.inj (ht.symm.trans ((congrArg (fun g => (Tryz.prog.globals[g]?).map (·.type)) (Option.some.inj (hg.symm.trans hg0))).trans ht0))
  obtain ⟨_, u, v, e, _, _⟩ := iface_of_trod Tryz.underlying130 hd0
  refine ⟨u, v, hv0.trans (congrArg some ?_)⟩
  rw [← Array.toList_inj, e]
set_option maxRecDepth 100000 in
theorem of_laid {W : World} (h : laidMetH Tryz.prog [("math/bits.deBruijn32tab", Rows.laid_math_bits_deBruijn32tab), ("math/bits.deBruijn64tab", Rows.laid_math_bits_deBruijn64tab), ("internal/strconv.uint64pow10", Rows.laid_internal_strconv_uint64pow10), ("strconv.ErrRange", Rows.laid_strconv_ErrRange), ("strconv.ErrSyntax", Rows.laid_strconv_ErrSyntax)] W) : EnvAt W := by
  rw [MakeChecks.laidMetH_plain _ _ _ (by kernel_rfl)] at h
  have h2 := h.tail.tail
  exact ⟨Lib.tabIs_of_head g_pow10 t_pow10 Tryz.underlying199 Tryz.underlying70 (by kernel_rfl) (by kernel_rfl) h2, iface_laid h2.tail.tail (by kernel_rfl) t_syntax, iface_laid h2.tail (by kernel_rfl) t_range⟩

theorem door_met (os : Os) (args : Array Value) : laidMetH Tryz.prog [("math/bits.deBruijn32tab", Rows.laid_math_bits_deBruijn32tab), ("math/bits.deBruijn64tab", Rows.laid_math_bits_deBruijn64tab), ("internal/strconv.uint64pow10", Rows.laid_internal_strconv_uint64pow10), ("strconv.ErrRange", Rows.laid_strconv_ErrRange), ("strconv.ErrSyntax", Rows.laid_strconv_ErrSyntax)] ((World.laidAll Tryz.prog os [("math/bits.deBruijn32tab", Rows.laid_math_bits_deBruijn32tab), ("math/bits.deBruijn64tab", Rows.laid_math_bits_deBruijn64tab), ("internal/strconv.uint64pow10", Rows.laid_internal_strconv_uint64pow10), ("strconv.ErrRange", Rows.laid_strconv_ErrRange), ("strconv.ErrSyntax", Rows.laid_strconv_ErrSyntax)]).forCall (fun _ _ => 0) ⟨#[], args, []⟩).memory := by
  rw [MakeChecks.laidMetH_plain _ _ _ (by kernel_rfl)]; exact laidMet_laidAll _ (by kernel_rfl) (by kernel_rfl)

end Go.Proofs.YtcopknopifbebaaGreatDoor

namespace Go.Proofs.YtcopknopifbebaaGreatDoor
open Go.RowKit Go.Bar Go.Bar.Wal Go.Bar.Leb Go.Bar.Frm Go.Conc Go.ChangeShapes Go.WideShapes Go.ChangeAt Go.Deep
section
variable {H : Type} {enc : TypeId × Value → H} {W : World} {base : Nat} {spare : Nat → Bool} {held : Bool}
theorem open_recs_raw {x : Value} {y : DataW H × List MemPlace} {fuel : Nat} (h : DataW.trod enc Tryz.prog W base spare held fuel 23 [x] = some y) : ∃ rs, RecsAt W x rs ∧ ∀ r ∈ rs, r.2.length ≤ maxLen := by
  obtain ⟨A, n, c, rfl, hnc, hcm, hx⟩ := open_fields_raw Tryz.underlying23 Tryz.underlying34 (by kernel_rfl) (by kernel_rfl) (Nat.zero_lt_succ 1 : 0 < 2) h
  rcases Nat.eq_zero_or_pos n with h0 | h0
  · subst h0
    exact ⟨[], ⟨rfl, A, c, rfl, hnc, hcm, fun h => absurd h (by simp)⟩, by simp⟩
  · obtain ⟨b, o, rfl, hb, hf⟩ := hx h0
    obtain ⟨rs, hl, ht⟩ := list_of (fun i (r : Rc) => W.cell? ⟨b, o + i * 2, none⟩ = some (.int .u8 r.1.toNat) ∧ W.cell? ⟨b, o + i * 2 + 1, none⟩ = some (.string (bs r.2)) ∧ r.2.length ≤ maxLen) n (fun i hi => by
      obtain ⟨x0, y0, k0, c0, t0⟩ := hf i hi 0 _ rfl
      obtain ⟨x1, y1, k1, c1, t1⟩ := hf i hi 1 _ rfl
      obtain ⟨n0, e0, _, w0⟩ := DataW.trod_int Tryz.underlying5 t0
      obtain ⟨s1, e1, e2, ws⟩ := DataW.trod_string Tryz.underlying9 t1
      replace e0 : x0 = _ := (List.cons.inj e0).1
      replace e1 : x1 = _ := (List.cons.inj e1).1
      have b0 := bounds_u8 w0
      subst e0; subst e1
      refine ⟨(UInt8.ofNat n0.toNat, s1.data.toList), ?_, ?_, ?_⟩
      · rw [show ((UInt8.ofNat n0.toNat).toNat : Int) = n0 by simp; omega]; exact c0
      · rw [Nat.add_assoc]; exact c1
      · exact ws)
    refine ⟨rs, ⟨rcs_length rs, some ⟨b, o, none⟩, c, by rw [hl], by rw [hl]; exact hnc, hcm, fun _ => ⟨b, o, rfl, hb, fun j hj => ?_⟩⟩, fun r hr => by obtain ⟨i, hi⟩ := List.mem_iff_getElem?.1 hr; exact (ht i r hi).2.2⟩
    have hlt : j / 2 < rs.length := by omega
    have hg := List.getElem?_eq_getElem hlt
    obtain ⟨g0, g1, _⟩ := ht _ _ hg
    obtain ⟨f0, f1⟩ := flat2 (fun r : Rc => Value.int .u8 r.1.toNat) (fun r => .string (bs r.2)) rs (j / 2) _ hg
    rcases Nat.mod_two_eq_zero_or_one j with hm | hm
    · have e : j / 2 * 2 = j := by omega
      rw [e] at g0 f0
      exact g0.trans f0.symm
    · have e : j / 2 * 2 + 1 = j := by omega
      rw [Nat.add_assoc, e] at g1
      rw [e] at f1
      exact g1.trans f1.symm
end
def IntsAt (W : World) (v : Value) (cs : List Int) : Prop := SlAt W 1 v cs.length (zcs cs) ∧ ∀ c ∈ cs, -9223372036854775808 ≤ c ∧ c ≤ 9223372036854775807
set_option maxRecDepth 100000 in
theorem open_ints_raw {H : Type} {enc : TypeId × Value → H} {W : World} {base : Nat} {spare : Nat → Bool} {held : Bool} {x : Value} {y : DataW H × List MemPlace} {fuel : Nat} (hk : DataW.trod enc Tryz.prog W base spare held fuel 38 [x] = some y) : ∃ cs, IntsAt W x cs := by
  obtain ⟨A, n, c, rfl, hnc, hcm, hx⟩ := open_ones_raw Tryz.underlying38 (by kernel_rfl) hk
  rcases Nat.eq_zero_or_pos n with h0 | h0
  · subst h0
    exact ⟨[], ⟨rfl, A, c, rfl, hnc, hcm, fun h => absurd h (by simp)⟩, by simp⟩
  · obtain ⟨b, o, rfl, hb, hf⟩ := hx h0
    obtain ⟨rs, hl, ht⟩ := list_of (fun i (x : Int) => W.cell? ⟨b, o + i, none⟩ = some (.int .i64 x) ∧ -9223372036854775808 ≤ x ∧ x ≤ 9223372036854775807) n (fun i hi => by
      obtain ⟨x0, y0, k0, c0, t0⟩ := hf i hi
      obtain ⟨n0, e0, _, w0⟩ := DataW.trod_int Tryz.underlying3 t0
      replace e0 : x0 = _ := (List.cons.inj e0).1
      subst e0
      exact ⟨n0, c0, bounds_i64 w0⟩)
    refine ⟨rs, ⟨by simp [zcs], some ⟨b, o, none⟩, c, by rw [hl], by rw [hl]; exact hnc, hcm, fun _ => ⟨b, o, rfl, hb, fun j hj => ?_⟩⟩, fun x hx => by obtain ⟨i, hi⟩ := List.mem_iff_getElem?.1 hx; exact (ht i x hi).2⟩
    have hlt : j < rs.length := by omega
    have hg := List.getElem?_eq_getElem hlt
    refine ((ht j _ hg).1).trans ?_
    unfold zcs
    rw [List.getElem?_map, hg]
    rfl
set_option maxRecDepth 100000 in
theorem open_ints_ {H : Type} {enc : TypeId × Value → H} {W : World} {base b0 : Nat} {spare : Nat → Bool} {held : Bool} {r : Reach} {v : Value} {d : DataW H} {p : List MemPlace} (hval : Value.okWide Tryz.prog W r b0 38 v)
    (h : DataW.Trod enc Tryz.prog W base spare held 38 v d p) : ∃ cs, IntsAt W v cs := by
  obtain ⟨A, len, cap, rfl⟩ := okWide_slice Tryz.underlying38 hval
  obtain ⟨k, hk⟩ := h
  have e : (Value.slice A len cap).cells.toList = [.slice A len cap] := by simp [Value.cells]
  rw [e] at hk
  exact open_ints_raw hk
theorem open_end (w : World) (h : Hd) (d : Ds) (B c : Nat) (limit : Int) {e : Nat} {d' : Ds} {g' : Lg} {got : List Rc} (hw : wOpen d limit = (e, d', g', got)) (k : DkAt w h d) (hE : EnvAt w) (hB : h.Hi B) (hB4 : 4 ≤ B) (ha : Wal.Acc c d) (hc : c ≤ 10000) (hr : d.room ≤ 10000000) :
    Calls Tryz.prog 12 #[.pointer (some ⟨h.D, 0, none⟩), .int .i64 limit] w fun en w' => ∃ p s, en = .returned (.tuple #[p, s, .int .i64 (e : Nat)]) ∧ DkAt w' h d' ∧ Off LTs B w w' := by
  refine (lOpen_any w h d B c limit k hE hB hB4 ha hc hr).mono ?_
  rw [hw]
  rintro en w' ⟨k', o', hh⟩
  rcases hh with ⟨_, rfl⟩ | ⟨h0, L, v, rfl, _⟩
  · exact ⟨_, _, rfl, k', o'⟩
  · have h0 : e = 0 := h0
    subst h0
    exact ⟨_, _, rfl, k', o'⟩
theorem and_mask11 (t : Int) (j : Nat) (hj : j < 63) : bits .and .i64 t ((2 ^ j - 1 : Nat) : Int) = t % ((2 ^ j : Nat) : Int) := by
  have hp : 2 ^ j < 2 ^ 63 := Nat.pow_lt_pow_right (by omega) hj
  have hpos : 0 < 2 ^ j := Nat.pos_of_ne_zero (by simp)
  have e : bits .and .i64 t ((2 ^ j - 1 : Nat) : Int) = IntKind.i64.wrap ((BitVec.ofInt 64 t &&& BitVec.ofInt 64 ((2 ^ j - 1 : Nat) : Int)).toNat : Int) := rfl
  have h3 : (BitVec.ofInt 64 ((2 ^ j - 1 : Nat) : Int)).toNat = 2 ^ j - 1 := ofInt_i64 _ (by omega)
  rw [BitVec.toNat_and, h3, Nat.and_two_pow_sub_one_eq_mod, IntKind.wrap_i64] at e
  rw [e]
  have h4 : (BitVec.ofInt 64 t).toNat = (t % 18446744073709551616).toNat := by rw [BitVec.toNat_ofInt]; rfl
  rw [h4]
  have h5 : (((t % 18446744073709551616).toNat % 2 ^ j : Nat) : Int) = t % ((2 ^ j : Nat) : Int) := by
    rw [Int.natCast_emod, Int.toNat_of_nonneg (Int.emod_nonneg _ (by omega))]
    refine Int.emod_emod_of_dvd _ ?_
    have : ((2 ^ j : Nat) : Int) ∣ ((2 ^ 64 : Nat) : Int) := Int.natCast_dvd_natCast.2 (Nat.pow_dvd_pow 2 (by omega))
    exact this
  rw [h5]
  have h6 := Int.emod_nonneg t (b := ((2 ^ j : Nat) : Int)) (by omega)
  have h7 := Int.emod_lt_of_pos t (b := ((2 ^ j : Nat) : Int)) (by omega)
  omega
theorem and3_11 (t : Int) : bits .and .i64 t 3 ≤ 9223372036854775807 := by
  have h : bits .and .i64 t 3 = t % 4 := and_mask11 t 2 (by omega)
  omega
end Go.Proofs.YtcopknopifbebaaGreatDoor
