/-
  Law 11 (wal): few records; are records the same; the first ones of some.
-/
import Derived.Test.YtcopknopifbebaaGreatDoorZWalAB
import Derived.Test.YtcopknopifbebaaGreatDoorZWalEB
import Derived.Test.YtcopknopifbebaaGreatDoorZWalU
import Derived.KernelRfl
import Derived.Test.YtcopknopifbebaaGreatDoorZLib5
import Derived.Test.YtcopknopifbebaaGreatDoorZShelf
import Derived.Test.YtcopknopifbebaaGreatDoorRows
import Derived.LaidMore
import Derived.Lay
import Derived.Stop.Joined
import Derived.Stop.LaidErr
import Derived.ChangeSame
import Derived.OpenShut
import Derived.Test.YtcopknopifbebaaGreatDoorZLib33
import Derived.Test.YtcopknopifbebaaGreatDoorTie
import Derived.Test.YtcopknopifbebaaGreatDoorCards

namespace Go.Bar.Wal
open Go.RowKit Go.Bar Go.Bar.Leb Go.Bar.Frm
def cutR (m : Nat) (r : Rc) : Rc := (r.1 &&& 127, r.2.take m)
def cutL (m : Nat) (rs : List Rc) : List Rc := rs.map (cutR m)
def few4 (rs : List Rc) : List Rc := cutL 30 (rs.take 4)
theorem cut_next {m : Nat} {rs : List Rc} {k : Nat} {r : Rc} (h : rs[k]? = some r) : cutL m (rs.take (k + 1)) = cutL m (rs.take k) ++ [cutR m r] := by
  unfold cutL
  rw [List.take_add_one, h, Option.toList_some, List.map_append]; rfl
theorem and127 (k : UInt8) : bits .and .u8 (k.toNat : Int) 127 = ((k &&& 127).toNat : Int) := by
  have h : ∀ n : Fin 256, bits .and .u8 ((n.val : Nat) : Int) 127 = ((UInt8.ofNat n.val &&& 127).toNat : Int) := by decide +kernel
  have h2 := h ⟨k.toNat, k.toNat_lt⟩
  simpa using h2
theorem and127_ne (k : UInt8) : k &&& 127 ≠ 255 := by
  have h : ∀ n : Fin 256, UInt8.ofNat n.val &&& 127 ≠ 255 := by decide +kernel
  have h2 := h ⟨k.toNat, k.toNat_lt⟩
  simpa using h2
theorem few4_len (rs : List Rc) : (few4 rs).length ≤ 4 := by unfold few4 cutL; rw [List.length_map, List.length_take]; omega
theorem cutL_dat (m : Nat) (rs : List Rc) : ∀ r ∈ cutL m rs, r.2.length ≤ m ∧ r.1 ≠ 255 := fun r hr => by
  obtain ⟨q, _, rfl⟩ := List.mem_map.1 hr
  exact ⟨by show (q.2.take m).length ≤ m; rw [List.length_take]; omega, and127_ne _⟩
end Go.Bar.Wal
namespace Go.Proofs.YtcopknopifbebaaGreatDoor
open Go.RowKit Go.Bar Go.Bar.Wal Go.Bar.Leb Go.Bar.Frm Go.Conc
attribute [local go_sem] Oper.semAt_some

set_option maxHeartbeats 1000000 in
set_option maxRecDepth 10000 in
theorem few11_any (v : Value) (rs : List Rc) (w : World) (h : RecsAt w v rs) (hsz : ∀ r ∈ rs, r.2.length ≤ maxLen) : Calls Tryz.prog 16 #[v] w (RetRecs w (few4 rs)) := by
  obtain ⟨A, c, rfl, hlc, hcm⟩ := h.shape
  unfold maxLen at hcm
  go_enter Tryz.func16, Tryz.ntmps16
  go_wp2_with fail
  go_loopw [3, 4] (fun s i wr => ∃ k : Nat, k ≤ rs.length ∧ k ≤ 4 ∧ i = .int .i64 k ∧ App (w.alloc (.cells #[] 34)) (.slice (some ⟨w.heap.size, 0, none⟩) 0 0) 34 2 0 [] wr s (cutL 30 (rs.take k)).length (frcs (cutL 30 (rs.take k)))) (fun _ i _ => 4 - (intOf i).toNat)
  case atStart => exact ⟨0, Nat.zero_le _, by omega, rfl, App.lit0 w _ _⟩
  case round =>
    obtain ⟨k, hk, hk6, rfl, happ⟩ := hrel
    have hbl := happ.below_lit0
    by_cases hgo : k < rs.length ∧ k < 4
    · obtain ⟨hk1, hk2⟩ := hgo
      obtain ⟨⟨kd, d⟩, hki⟩ : ∃ r, rs[k]? = some r := ⟨_, List.getElem?_eq_getElem hk1⟩
      have hn := cut_next (m := 30) hki
      have hcl : (cutL 30 (rs.take k)).length ≤ 4 := by simp [cutL]; omega
      obtain ⟨b, o, rfl, hlt, c0, c1⟩ := (h.below hbl).at_ hki
      have hd := hsz _ (List.mem_of_getElem? hki)
      simp only at hd
      have HN := Lib.hid hn
      have hand := and127 kd
      have hci : (0 : Int) ≤ (k : Int) := by omega
      have hci2 : (k : Int) < rs.length := by omega
      clear hn hki
      go_wp2_with fail
      go_region_law (first
        | (((rw [if_pos (by rfl)]); go_simp; go_at_call 31; refine (cut_any (bs d) 30 _ (by omega) (by omega) (by rw [bs_size]; exact hd)).mono ?_; rintro e w' ⟨rfl, rfl⟩; dsimp only))
        | ((refine step_append_app (by rfl) (.tmp 16) (.tmp 30) _ (by rfl) rec_ty (by rfl) ((happ.alloc _).drew) (by rfl) (Src.drew_ (Buf.lit wr 34 2 1 [.int .u8 (kd &&& 127).toNat, .string (bs (d.take 30))] rfl (by decide)) rec_ty.slice (by simp [Value.oneCell'])) (by simp only [maxLen]; omega) (by omega) ?_; intro v2 w2 happ2)))
      all_goals
        go_wp2_with fail
        go_roundw
        case rel => exact ⟨k + 1, by omega, by omega, by go_num, by rw [HN.out, List.length_append]; show App _ _ _ _ _ _ _ _ _ (frcs (_ ++ [((kd &&& 127), d.take 30)])); rw [frcs_snoc]; exact happ2⟩
        case measure => simp [intOf]; omega
    · have hend : rs.length ≤ k ∨ k < rs.length ∧ 4 ≤ k := by omega
      have he : cutL 30 (rs.take k) = few4 rs := by
        unfold few4
        rcases hend with h1 | h1
        · rw [List.take_of_length_le h1, List.take_of_length_le (by omega)]
        · rw [show k = 4 by omega]
      rw [he] at happ
      have hbuf := happ.buf
      rw [Nat.zero_add, List.nil_append] at hbuf
      clear hgo he happ
      rcases hend with h1 | ⟨h1, h2⟩
      all_goals
        go_wp2_with fail
        go_ret
        exact ⟨_, rfl, hbuf, hbl⟩
def sameR (a b : List Rc) : Int := if a = b then 0 else -1
set_option maxHeartbeats 1000000 in
set_option maxRecDepth 10000 in
theorem same11_any (v u : Value) (rs qs : List Rc) (w : World) (h : RecsAt w v rs) (h' : RecsAt w u qs) : Calls Tryz.prog 15 #[v, u] w (Quiet w (.int .i64 (sameR rs qs))) := by
  obtain ⟨A, c, rfl, hlc, hcm⟩ := h.shape
  obtain ⟨A2, c2, rfl, hlc2, hcm2⟩ := h'.shape
  unfold maxLen at hcm hcm2
  by_cases hl : rs.length = qs.length
  · have hres : ∀ k, k ≤ qs.length → rs.take k = qs.take k → (∀ x y, rs[k]? = some x → qs[k]? = some y → x ≠ y → sameR rs qs = -1) := fun k hk he x y hx hy hxy => by
      unfold sameR
      rw [if_neg]
      intro e
      rw [e, hy] at hx
      injection hx with hx
      exact hxy hx.symm
    have hall : rs.take qs.length = qs.take qs.length → sameR rs qs = 0 := fun he => by
      rw [← hl, List.take_length, hl, List.take_length] at he
      unfold sameR
      rw [if_pos he]
    obtain ⟨R, hR⟩ : ∃ R, R = sameR rs qs := ⟨_, rfl⟩
    rw [← hR]
    rw [← hR] at hall
    simp only [← hR] at hres
    replace hall := Lib.hid hall
    replace hres := Lib.hid hres
    clear hR
    go_enter Tryz.func15, Tryz.ntmps15
    go_wp2_with fail
    go_loopw [13] (fun i wr => ∃ k n : Nat, k ≤ qs.length ∧ i = .int .i64 k ∧ wr = w.drewN n ∧ Hid (rs.take k = qs.take k)) (fun i _ => qs.length - (intOf i).toNat)
    case atStart => exact ⟨0, 0, Nat.zero_le _, rfl, rfl, rfl⟩
    case round =>
      obtain ⟨k, n, hk, rfl, rfl, hpre⟩ := hrel
      by_cases hgo : k < qs.length
      · obtain ⟨⟨kd, d⟩, hki⟩ : ∃ r, rs[k]? = some r := ⟨_, List.getElem?_eq_getElem (by omega)⟩
        obtain ⟨⟨kd2, d2⟩, hki2⟩ : ∃ r, qs[k]? = some r := ⟨_, List.getElem?_eq_getElem hgo⟩
        obtain ⟨b, o, rfl, hlt, c0, c1⟩ := h.at_ hki
        obtain ⟨b2, o2, rfl, hlt2, c2, c3⟩ := h'.at_ hki2
        have hci : (0 : Int) ≤ (k : Int) := by omega
        have hci2 : (k : Int) < rs.length := by omega
        have hci3 : (k : Int) < qs.length := by omega
        by_cases heq : kd = kd2 ∧ d = d2
        · obtain ⟨rfl, rfl⟩ := heq
          have hst : Hid (rs.take (k + 1) = qs.take (k + 1)) := by
            have := hpre.out
            show rs.take (k + 1) = qs.take (k + 1)
            rw [List.take_add_one, List.take_add_one, hki, hki2, this]
          clear hki hki2
          go_wp2_with fail
          go_quiet (fail)
          go_wp2_with fail
          go_roundw
          case rel => exact ⟨k + 1, n + nq, by omega, by go_num, rfl, hst⟩
          case measure => simp [intOf]; omega
        · have hst := Lib.hid (hres.out k hk hpre.out _ _ hki hki2 (fun e => heq (by injection e with e1 e2; exact ⟨e1, e2⟩)))
          clear hki hki2
          by_cases hkd : kd = kd2
          · subst hkd
            have hd1 : ¬ d = d2 := fun e => heq ⟨rfl, e⟩
            have hd2 : (d == d2) = false := by simpa using hd1
            clear heq
            go_wp2_with fail
            go_quiet (fail)
            go_wp2_with fail
            go_ret
            exact ⟨by rw [hst.out]; rfl, n + nq, by simp⟩
          · have hk1 : ¬ kd.toNat = kd2.toNat := fun e => hkd (UInt8.toNat_inj.1 e)
            have hk2 : ¬ (kd.toNat : Int) = kd2.toNat := by omega
            clear heq
            go_wp2_with fail
            go_quiet (fail)
            go_wp2_with fail
            go_ret
            exact ⟨by rw [hst.out]; rfl, n + nq, by simp⟩
      · have hke : k = qs.length := by omega
        subst hke
        have h0 := Lib.hid (hall.out hpre.out)
        clear hgo
        go_wp2_with fail
        go_ret
        exact ⟨by rw [h0.out]; rfl, n, rfl⟩
  · have hR : sameR rs qs = -1 := by unfold sameR; rw [if_neg (fun e => hl (by rw [e]))]
    rw [hR]
    clear hR
    have hl2 : ¬ (rs.length : Int) = qs.length := by omega
    go_enter Tryz.func15, Tryz.ntmps15
    go_wp2_with fail
    go_ret
    exact ⟨rfl, 0, rfl⟩
end Go.Proofs.YtcopknopifbebaaGreatDoor

/-
  Law 11 (wal): plain: what awake asks: no program in sight; no condition.
-/
namespace Go.Bar.Wal
open Go.RowKit Go.Bar Go.Bar.Leb Go.Bar.Frm
def awAB : List Rc := [(1, [97]), (1, [98])]
def awC : List Rc := [(1, [99])]
def awG (n : Nat) (b : Bool) : Lg := ⟨100, 1, n, b⟩
def awD (s : List UInt8) (sure : Nat) (u : Int) (z : Fz) : Ds := ⟨[(segN 1, ⟨s, sure⟩)], 1000, u, z⟩
theorem awL : (laid awAB).length = 14 ∧ (laid awC).length = 7 := by decide +kernel
theorem aw_seven : segN 7 = [119, 97, 108, 45, 48, 48, 48, 48, 48, 48, 48, 55] := by decide +kernel
theorem aw1 : wAppend (Ds.new 1000) (awG 0 false) awAB = (0, awD (laid awAB) 14 14 Fz.none_, awG 14 false) := by
  kernel_rfl
theorem aw2 : (awD (laid awAB) 14 14 Fz.none_).fz.arm 1 false = (0, ⟨[(1, false)], none⟩) := by kernel_rfl
theorem aw3 : wAppend (awD (laid awAB) 14 14 ⟨[(1, false)], none⟩) (awG 14 false) awC = (8, awD (laid awAB ++ laid awC) 14 21 Fz.none_, awG 21 true) := by
  kernel_rfl
theorem aw4 : wAppend (awD (laid awAB ++ laid awC) 14 21 Fz.none_) (awG 21 true) awC = (9, awD (laid awAB ++ laid awC) 14 21 Fz.none_, awG 21 true) := by
  kernel_rfl
theorem aw5 : (awD (laid awAB ++ laid awC) 14 21 Fz.none_).crash [] = awD (laid awAB) 14 14 Fz.none_ := by
  kernel_rfl
theorem aw6 : ∃ d' g', wOpen (awD (laid awAB) 14 14 Fz.none_) 100 = (0, d', g', awAB) := by
  have hs : Srt (awD (laid awAB) 14 14 Fz.none_).fs := List.pairwise_singleton _ _
  obtain ⟨d', g, h, _⟩ := opens hs rfl 100 (fun p hp => by
    have : p = (segN 1, ⟨laid awAB, 14⟩) := by simpa [awD] using hp
    rw [this]
    show 14 ≤ (laid awAB).length
    rw [awL.1]; decide)
  refine ⟨d', g, ?_⟩
  rw [h]
  have e : since (refAll (awD (laid awAB) 14 14 Fz.none_).fs) = awAB := by
    decide +kernel
  rw [e]
theorem aw_acc : Acc 1 (awD (laid awAB) 14 14 Fz.none_) := by
  have := (Acc.new 1000).wAppend (awG 0 false) awAB
  rw [aw1] at this
  exact this
theorem aw_acc3 : Acc 2 (awD (laid awAB ++ laid awC) 14 21 Fz.none_) := by
  have h1 := aw_acc.fuse (z := ⟨[(1, false)], none⟩) (by decide)
  have := Acc.wAppend (d := awD (laid awAB) 14 14 ⟨[(1, false)], none⟩) h1 (awG 14 false) awC
  rw [aw3] at this
  exact this
end Go.Bar.Wal

/-
  Law 11 (wal): awake.
-/
namespace Go.Bar.Wal
open Go.RowKit Go.Bar Go.Bar.Leb Go.Bar.Frm Go.Proofs
theorem nl_rec : ¬ LTs 34 := fun c => by
  rcases c with c | c
  · rcases c with c | c | c <;> exact absurd c (by decide)
  · exact absurd c (by decide)
end Go.Bar.Wal
namespace Go.Proofs.YtcopknopifbebaaGreatDoor
open Go.RowKit Go.Bar Go.Bar.Wal Go.Bar.Leb Go.Bar.Frm Go.Conc
attribute [local go_sem] Oper.semAt_some

theorem open_ok (w : World) (h : Hd) (d : Ds) (B c : Nat) (limit : Int) (d' : Ds) (g' : Lg) (got : List Rc) (hw : wOpen d limit = (0, d', g', got)) (k : DkAt w h d) (hE : EnvAt w) (hB : h.Hi B) (hB4 : 4 ≤ B) (ha : Wal.Acc c d) (hc : c ≤ 10000) (hr : d.room ≤ 10000000) :
    Calls Tryz.prog 12 #[.pointer (some ⟨h.D, 0, none⟩), .int .i64 limit] w fun en w' => ∃ L A cp, en = .returned (.tuple #[.pointer (some ⟨L, 0, none⟩), .slice A got.length cp, .int .i64 0]) ∧ DkAt w' h d' ∧ LgAt w' L h g' ∧ B ≤ L ∧ Off LTs B w w' ∧ Buf w' 34 2 (.slice A got.length cp) got.length (frcs got) := by
  have hB0 := hiA k hB
  refine (lOpen_any w h d B c limit k hE hB hB4 ha hc hr).mono ?_
  rw [hw]
  rintro en w' ⟨k', o', hh⟩
  rcases hh with ⟨hh, _⟩ | ⟨_, L, v, rfl, l', hL, hbuf⟩
  · exact absurd rfl hh
  · obtain ⟨A, cp, rfl, _⟩ := hbuf.shape
    exact ⟨L, A, cp, rfl, k', l', Nat.le_trans hB0 hL, o', hbuf⟩
theorem append_ok (w : World) (L : Nat) (h : Hd) (d : Ds) (g : Lg) (B c : Nat) (v : Value) (rs : List Rc) (e : Nat) (d' : Ds) (g' : Lg) (hw : wAppend d g rs = (e, d', g')) (k : DkAt w h d) (kl : LgAt w L h g) (hE : EnvAt w) (hB : h.Hi B) (hL : B ≤ L) (hB4 : 4 ≤ B) (ha : Wal.Acc c d) (hc : c ≤ 100000) (hr : d.room ≤ 10000000)
    (hv : RecsAt w v rs) (hn : rs.length ≤ 20) (hs : ∀ r ∈ rs, r.2.length ≤ 1000) (hg1 : 1 ≤ g.limit) (hg2 : g.limit ≤ 9223372036854775807) (hg3 : g.seg ≤ 1000000) (hg4 : g.size ≤ 1000000000) :
    Calls Tryz.prog 14 #[.pointer (some ⟨L, 0, none⟩), v] w fun en w' => en = .returned (.int .i64 (e : Nat)) ∧ DkAt w' h d' ∧ LgAt w' L h g' ∧ Off LTs B w w' := by
  refine (lAppend_any w L h d g B c v rs k kl hE hB hL hB4 ha hc hr hv hn hs hg1 hg2 hg3 hg4).mono ?_
  rw [hw]
  rintro en w' ⟨h1, h2, h3, h4⟩
  exact ⟨h1, h2, h3, h4⟩
set_option maxHeartbeats 8000000 in
set_option maxRecDepth 10000 in
theorem awake11_any (w : World) (hE : EnvAt w) : Calls Tryz.prog 17 #[] w (RetBelow w (.bool true)) := by
  have hB4 := hE.four
  obtain ⟨B, hBe⟩ : ∃ B, B = w.heap.size := ⟨_, rfl⟩
  rw [← hBe] at hB4
  have hE0 := Lib.hid hE
  have hnew := Lib.hid (new_any w 1000)
  rw [← hBe] at hnew
  have hopen1 := Lib.hid (fun wx h (kx : DkAt wx h (Ds.new 1000)) hx (hB : h.Hi B) => open_ok wx h (Ds.new 1000) B 0 100 (Ds.new 1000) (awG 0 false) [] (open_new 1000 100).1 kx hx hB hB4 (Acc.new 1000) (by decide) (by decide))
  have happ1 := Lib.hid (fun wx L h v (kx : DkAt wx h (Ds.new 1000)) (lx : LgAt wx L h (awG 0 false)) hx (hB : h.Hi B) (hL : B ≤ L) (hv : RecsAt wx v awAB) => append_ok wx L h _ _ B 0 v awAB _ _ _ aw1 kx lx hx hB hL hB4 (Acc.new 1000) (by decide) (by decide) hv (by decide) (by decide) (by decide) (by decide) (by decide) (by decide))
  have harm := Lib.hid (fun wx h (kx : DkAt wx h (awD (laid awAB) 14 14 Fz.none_)) (hB : h.Hi B) => arm_any wx h _ B 1 false kx hB (by decide))
  have happ2 := Lib.hid (fun wx L h v (kx : DkAt wx h (awD (laid awAB) 14 14 ⟨[(1, false)], none⟩)) (lx : LgAt wx L h (awG 14 false)) hx (hB : h.Hi B) (hL : B ≤ L) (hv : RecsAt wx v awC) => append_ok wx L h _ _ B 1 v awC _ _ _ aw3 kx lx hx hB hL hB4 (aw_acc.fuse (z := ⟨[(1, false)], none⟩) (by decide)) (by decide) (by decide) hv (by decide) (by decide) (by decide) (by decide) (by decide) (by decide))
  have happ3 := Lib.hid (fun wx L h v (kx : DkAt wx h (awD (laid awAB ++ laid awC) 14 21 Fz.none_)) (lx : LgAt wx L h (awG 21 true)) hx (hB : h.Hi B) (hL : B ≤ L) (hv : RecsAt wx v awC) => append_ok wx L h _ _ B 2 v awC _ _ _ aw4 kx lx hx hB hL hB4 aw_acc3 (by decide) (by decide) hv (by decide) (by decide) (by decide) (by decide) (by decide) (by decide))
  obtain ⟨d6, g6, hw6⟩ := aw6
  have hcr := Lib.hid (fun wx h (kx : DkAt wx h (awD (laid awAB ++ laid awC) 14 21 Fz.none_)) (hB : h.Hi B) => crash_any wx h _ B 2 kx hB aw_acc3 (by decide) (by decide) none 0 [] (by decide) (fun w' _ => SlAt.of_buf (Buf.nil w' 3 1)))
  have hopen2 := Lib.hid (fun wx h (kx : DkAt wx h (awD (laid awAB) 14 14 Fz.none_)) hx (hB : h.Hi B) => open_ok wx h _ B 1 100 d6 g6 awAB hw6 kx hx hB hB4 aw_acc (by decide) (by decide))
  replace hopen2 : Hid (∀ wx h, DkAt wx h (awD (laid awAB) 14 14 Fz.none_) → EnvAt wx → h.Hi B → Calls Tryz.prog 12 #[.pointer (some ⟨h.D, 0, none⟩), .int .i64 100] wx fun en w' => ∃ L A cp, en = .returned (.tuple #[.pointer (some ⟨L, 0, none⟩), .slice A 2 cp, .int .i64 0]) ∧ DkAt w' h d6 ∧ LgAt w' L h g6 ∧ B ≤ L ∧ Off LTs B wx w' ∧ Buf w' 34 2 (.slice A 2 cp) 2 (frcs awAB)) := hopen2
  rw [aw2] at harm
  rw [aw5] at hcr
  have hEx : ∀ wx, Below B w wx → EnvAt wx := fun wx hb => hE.bel hb hB4
  replace hEx := Lib.hid hEx
  clear hE hw6
  go_enter Tryz.func17, Tryz.ntmps17
  go_upto_region 5 with (first
    | (go_at_call 11; refine hnew.out.mono ?_; rintro e w1 ⟨h, rfl, k1, hB, hb1⟩)
    | (go_at_call 12; refine (hopen1.out w1 h k1 (hEx.out _ hb1) hB).mono ?_; rintro e w2 ⟨L, A, cp, rfl, k2, l2, hL, o2, _⟩))
  go_upto_region 6 with fail
  have hba : Below w2.heap.size w2 (((w2.alloc (.cells #[.int .u8 1, .string { data := #[97] }] 34)).alloc (.cells #[.int .u8 1, .string { data := #[98] }] 34)).alloc (.cells #[.int .u8 1, .string { data := #[99] }] 34)) := (((Below.refl _ w2).alloc (Nat.le_refl _) _).alloc (by simp) _).alloc (by simp; omega) _
  have BA : Blk (((w2.alloc (.cells #[.int .u8 1, .string { data := #[97] }] 34)).alloc (.cells #[.int .u8 1, .string { data := #[98] }] 34)).alloc (.cells #[.int .u8 1, .string { data := #[99] }] 34)) w2.heap.size 34 #[.int .u8 1, .string { data := #[97] }] := ((blk_at rfl).alloc _).alloc _
  have BB : Blk (((w2.alloc (.cells #[.int .u8 1, .string { data := #[97] }] 34)).alloc (.cells #[.int .u8 1, .string { data := #[98] }] 34)).alloc (.cells #[.int .u8 1, .string { data := #[99] }] 34)) (w2.heap.size + 1) 34 #[.int .u8 1, .string { data := #[98] }] := (blk_at (by simp)).alloc _
  have BC : Blk (((w2.alloc (.cells #[.int .u8 1, .string { data := #[97] }] 34)).alloc (.cells #[.int .u8 1, .string { data := #[98] }] 34)).alloc (.cells #[.int .u8 1, .string { data := #[99] }] 34)) (w2.heap.size + 1 + 1) 34 #[.int .u8 1, .string { data := #[99] }] := blk_at (by simp)
  obtain ⟨w3, hw3⟩ : ∃ w3, w3 = (((w2.alloc (.cells #[.int .u8 1, .string { data := #[97] }] 34)).alloc (.cells #[.int .u8 1, .string { data := #[98] }] 34)).alloc (.cells #[.int .u8 1, .string { data := #[99] }] 34)) := ⟨_, rfl⟩
  rw [← hw3] at hba BA BB BC ⊢
  clear hw3
  have k3 := k2.below hba
  have l3 := l2.below hba
  have o1 : Off LTs B w w1 := ⟨Kc.of_below (by have := hb1; rwa [hBe] at this), hb1⟩
  have o3 : Off LTs B w w3 := o1.trans (o2.trans (Off.of_below hba (hiA k2 hB)))
  have al : ∀ wx (o : Obj), Below wx.heap.size wx (wx.alloc o) := fun wx o => (Below.refl _ _).alloc (Nat.le_refl _) o
  have AL := Lib.hid al
  clear hba k2 l2 o2 k1 hb1 al hnew hopen1
  obtain ⟨a0, a1⟩ := Blk.c2 BA
  obtain ⟨b0, b1⟩ := Blk.c2 BB
  have K3 := Lib.hid k3
  have L3 := Lib.hid l3
  have O3 := Lib.hid o3
  have HBC := Lib.hid BC
  have HBB := Lib.hid BB
  clear k3 l3 o3 BA BB BC
  have lit1 : ∀ wx : World, Hid (RecsAt (wx.alloc (.cells #[.int .u8 1, .string { data := #[97] }, .int .u8 1, .string { data := #[98] }] 34)) (.slice (some ⟨wx.heap.size, 0, none⟩) 2 2) awAB) := fun wx => SlAt.of_buf (Buf.lit wx 34 2 2 [.int .u8 1, .string (bs [97]), .int .u8 1, .string (bs [98])] rfl (by decide))
  have lit2 : ∀ wx : World, Hid (RecsAt (wx.alloc (.cells #[.int .u8 1, .string { data := #[99] }] 34)) (.slice (some ⟨wx.heap.size, 0, none⟩) 1 1) awC) := fun wx => SlAt.of_buf (Buf.lit wx 34 2 1 [.int .u8 1, .string (bs [99])] rfl (by decide))
  have LIT1 := Lib.hid lit1
  have LIT2 := Lib.hid lit2
  clear lit1 lit2
  have d2l : ∀ T, DT0 T → LTs T := fun T h => dlt T (dt0 T h)
  have D2L := Lib.hid d2l
  clear d2l
  go_upto_region 8 with (first
    | (go_at_call 14; refine (happ3.out _ L h _ (k6.below (AL.out _ _)) (l6.below (AL.out _ _)) (hEx.out _ ((O3.out.trans P6.out).trans (Off.of_below (AL.out _ _) (hiA k6 hB))).bel) hB hL (LIT2.out _).out).mono ?_; rintro e w7 ⟨rfl, k7, l7, o7⟩; have P7 := Lib.hid (P6.out.trans ((Off.of_below (AL.out _ _) (hiA k6 hB)).trans o7)))
    | (go_at_call 14; refine (happ2.out _ L h _ (k5.below (AL.out _ _)) (l5.below (AL.out _ _)) (hEx.out _ ((O3.out.trans P5.out).trans (Off.of_below (AL.out _ _) (hiA k5 hB))).bel) hB hL (LIT2.out _).out).mono ?_; rintro e w6 ⟨rfl, k6, l6, o6⟩; have P6 := Lib.hid (P5.out.trans ((Off.of_below (AL.out _ _) (hiA k5 hB)).trans o6)); obtain ⟨e0, e1⟩ := Blk.c2 (P6.out.kc.blk HBC.out nl_rec))
    | (go_at_call 18; refine (harm.out _ h k4 hB).mono ?_; rintro e w5 ⟨rfl, k5, o5⟩; have l5 := l4.off (o5.wide dt0); have P5 := Lib.hid (P4.out.trans (o5.wide D2L.out)); obtain ⟨c0, c1⟩ := Blk.c2 (P5.out.kc.blk HBC.out nl_rec))
    | (go_at_call 14; refine (happ1.out _ L h _ (K3.out.below (AL.out _ _)) (L3.out.below (AL.out _ _)) (hEx.out _ (O3.out.trans (Off.of_below (AL.out _ _) (hiA K3.out hB))).bel) hB hL (LIT1.out _).out).mono ?_; rintro e w4 ⟨rfl, k4, l4, o4⟩; have x0 := (d_cells k4).1; have P4 := Lib.hid ((Off.of_below (Ts := LTs) (AL.out _ _) (hiA K3.out hB)).trans o4)))
  go_upto_region 10 with (first
    | (go_at_call 19; refine (hcr.out _ h k7 hB).mono ?_; rintro e w8 ⟨rfl, k8, o8⟩; have P8 := Lib.hid (P7.out.trans (o8.wide dlt)))
    | (go_at_call 12; refine (hopen2.out w8 h k8 (hEx.out _ (O3.out.trans P8.out).bel) hB).mono ?_; rintro e w9 ⟨L9, A9, cp9, rfl, k9, l9, hL9, o9, hb9⟩; have P9 := Lib.hid (P8.out.trans o9)))
  have BB9 := Lib.hid (P9.out.kc.blk HBB.out nl_rec)
  have hE9 := Lib.hid (hEx.out _ (O3.out.trans P9.out).bel)
  have hbel : Below w.heap.size w w9 := by have := (O3.out.trans P9.out).bel; rwa [hBe] at this
  obtain ⟨b9, o9', rfl, hlt9, hc9⟩ := (SlAt.of_buf hb9).cells (by decide)
  have g2 := Lib.hid (hc9 2 (.int .u8 1) rfl)
  have g3 := Lib.hid (hc9 3 (.string (bs [98])) rfl)
  have HLT := Lib.hid hlt9
  clear hc9 hb9 hlt9
  have hn7 : ∀ wx, Below w9.heap.size w9 wx → Calls Tryz.prog 25 #[.int .i64 7] wx (RetBelow wx (.string (bs [119, 97, 108, 45, 48, 48, 48, 48, 48, 48, 48, 55]))) := fun wx hw => by
    have := name_any wx (hE9.out.below hw) 7 (by decide)
    rw [aw_seven] at this
    exact this
  have HN7 := Lib.hid hn7
  clear hn7
  refine wp_region_known [(10, .agg #[.int .u8 1, .string (bs [98])]), (11, .agg #[.int .u8 1, .string (bs [98])]), (15, .string (bs [119, 97, 108, 45, 48, 48, 48, 48, 48, 48, 48, 55]))] (by kernel_rfl) 86 (by kernel_rfl) rfl ?_
  repeat (first
    | (refine Chain.step (v := ?_) (a' := ?_) rfl rfl rfl ?_ ?_ ?_; rotate_left 2; (focus (intro w; go_simp; try with_reducible rfl)); focus (simp only [Act.put, pqA, pqS, pqZ]; try rfl))
    | (refine Chain.call (i := 10) (a' := ?_) _ rfl rfl rfl (fun wx hw => ?_) ?_ ?_; rotate_left 1; (focus (have q2 : wx.cell? ⟨b9, o9' + 2, none⟩ = some (.int .u8 1) := (hw.cell (p := ⟨b9, o9' + 2, none⟩) HLT.out).trans g2.out); (have q3 : wx.cell? ⟨b9, o9' + 2 + 1, none⟩ = some (.string (bs [98])) := (hw.cell (p := ⟨b9, o9' + 3, none⟩) HLT.out).trans g3.out); (go_simp); (first | exact ⟨rfl, rB⟩ | exact rB)); focus (simp only [Act.put, pqA, pqS, pqZ]; try rfl))
    | (refine Chain.call (i := 11) (a' := ?_) _ rfl rfl rfl (fun wx hw => ?_) ?_ ?_; rotate_left 1; (focus (obtain ⟨q2, q3⟩ := Blk.c2 (BB9.out.below hw)); (go_simp); (first | exact ⟨rfl, rB⟩ | exact rB)); focus (simp only [Act.put, pqA, pqS, pqZ]; try rfl))
    | (refine Chain.call (i := 15) (a' := ?_) _ rfl rfl rfl (fun wx hw => ?_) ?_ ?_; rotate_left 1; (focus (go_simp; (with_reducible refine (HN7.out wx hw).mono ?_); exact (fun e w' ⟨h1, h2⟩ => by subst h1; exact ⟨rfl, h2⟩))); focus (simp only [Act.put, pqA, pqS, pqZ]; try rfl))
    | (refine Chain.skip (a' := ?_) rfl rfl rfl ?_ ?_; rotate_left 1; focus (simp only [Act.put, pqA, pqS, pqZ]; try rfl)))
  refine Chain.end_ (fun wy hwy _ => ?_)
  go_wp2_with fail
  go_ret
  exact ⟨rfl, hbel.trans (hwy.mono hbel.size)⟩
end Go.Proofs.YtcopknopifbebaaGreatDoor

/-
  Law 11 (wal): small facts for the laws; Restart where it is known how it ends.
-/
namespace Go.Bar.Wal
open Go.RowKit Go.Bar Go.Bar.Leb Go.Bar.Frm
theorem few4_few (rs : List Rc) : Few (few4 rs) ∧ (∀ r ∈ few4 rs, r.2.length ≤ 30) ∧ (few4 rs).length ≤ 4 :=
  ⟨⟨fun r hr => Nat.le_trans (cutL_dat 30 _ r hr).1 (by decide), fun r hr => (cutL_dat 30 _ r hr).2⟩, fun r hr => (cutL_dat 30 _ r hr).1, few4_len rs⟩
theorem wAppend_lim (d : Ds) (g : Lg) (rs : List Rc) : (wAppend d g rs).2.2.limit = g.limit := by
  unfold wAppend
  simp only
  (repeat' split) <;> rfl
theorem wAppend_size (d : Ds) (g : Lg) (rs : List Rc) : (wAppend d g rs).2.2.size ≤ g.size + (laid rs).length := by
  unfold wAppend
  simp only
  (repeat' split) <;> simp only <;> omega
theorem wRestart_lim (d : Ds) (g : Lg) (rs : List Rc) : (wRestart d g rs).2.2.limit = g.limit := by
  unfold wRestart
  simp only
  (repeat' split) <;> rfl
theorem wRestart_size (d : Ds) (g : Lg) (rs : List Rc) : (wRestart d g rs).2.2.size ≤ g.size + (laid (reset rs)).length := by
  unfold wRestart
  simp only
  (repeat' split) <;> simp only <;> omega
end Go.Bar.Wal
namespace Go.Proofs.YtcopknopifbebaaGreatDoor
open Go.RowKit Go.Bar Go.Bar.Wal Go.Bar.Leb Go.Bar.Frm Go.Conc
theorem restart_ok (w : World) (L : Nat) (h : Hd) (d : Ds) (g : Lg) (B c : Nat) (v : Value) (rs : List Rc) (e : Nat) (d' : Ds) (g' : Lg) (hw : wRestart d g rs = (e, d', g')) (k : DkAt w h d) (kl : LgAt w L h g) (hE : EnvAt w) (hB : h.Hi B) (hL : B ≤ L) (hB4 : 4 ≤ B) (ha : Wal.Acc c d) (hc : c ≤ 10000) (hr : d.room ≤ 10000000)
    (hv : RecsAt w v rs) (hn : rs.length ≤ 10) (hs : ∀ r ∈ rs, r.2.length ≤ 1000) (hg3 : g.seg ≤ 1000000) :
    Calls Tryz.prog 27 #[.pointer (some ⟨L, 0, none⟩), v] w fun en w' => en = .returned (.int .i64 (e : Nat)) ∧ DkAt w' h d' ∧ LgAt w' L h g' ∧ Off LTs B w w' := by
  refine (lRestart_any w L h d g B c v rs k kl hE hB hL hB4 ha hc hr hv hn hs hg3).mono ?_
  rw [hw]
  rintro en w' ⟨h1, h2, h3, h4⟩
  exact ⟨h1, h2, h3, h4⟩
end Go.Proofs.YtcopknopifbebaaGreatDoor

/-
  Law 11 (wal): what the frames of the laws take: the five laid variables. No condition.
-/
namespace Go.Proofs.YtcopknopifbebaaGreatDoor
open Go.RowKit Go.Bar Go.ChangeShapes Go.WideShapes Go.ChangeAt Go.Deep
theorem g_pow10 : Tryz.prog.globalNamed "internal/strconv.uint64pow10" = some 0 := by kernel_rfl
theorem t_pow10 : (Tryz.prog.globals[0]?).map (·.type) = some 199 := by kernel_rfl
theorem t_range : (Tryz.prog.globals[3]?).map (·.type) = some 130 := by kernel_rfl
theorem t_syntax : (Tryz.prog.globals[2]?).map (·.type) = some 130 := by kernel_rfl
theorem iface_laid {W : World} {n nm : String} {d : DataW Unit} {r : List (String × DataW Unit)} {g : Nat} (h : laidMet Tryz.prog ((n, .iface nm d) :: r) W) (hg : Tryz.prog.globalNamed n = some g) (ht : (Tryz.prog.globals[g]?).map (·.type) = some 130) : ∃ tp p, W.var? Tryz.prog n = some #[.iface tp p] := by
  obtain ⟨ps, ⟨g0, t0, cs0, f0, p0, q0, hg0, ht0, hv0, hd0, _, _⟩, _, _⟩ := h
  obtain rfl := Option.some.inj (ht.symm.trans ((congrArg (fun g => (Tryz.prog.globals[g]?).map (·.type)) (Option.some.inj (hg.symm.trans hg0))).trans ht0))
  obtain ⟨_, u, v, e, _, _⟩ := iface_of_trod Tryz.underlying130 hd0
  refine ⟨u, v, hv0.trans (congrArg some ?_)⟩
  rw [← Array.toList_inj, e]
set_option maxRecDepth 100000 in
theorem of_laid {W : World} (h : laidMetH Tryz.prog [("math/bits.deBruijn32tab", Rows.laid_math_bits_deBruijn32tab), ("math/bits.deBruijn64tab", Rows.laid_math_bits_deBruijn64tab), ("internal/strconv.uint64pow10", Rows.laid_internal_strconv_uint64pow10), ("strconv.ErrRange", Rows.laid_strconv_ErrRange), ("strconv.ErrSyntax", Rows.laid_strconv_ErrSyntax)] W) : EnvAt W := by
  rw [MakeChecks.laidMetH_plain _ _ _ (by kernel_rfl)] at h
  have h2 := h.tail.tail
  exact ⟨Lib.tabIs_of_head g_pow10 t_pow10 Tryz.underlying199 Tryz.underlying70 (by kernel_rfl) (by kernel_rfl) h2, iface_laid h2.tail.tail (by kernel_rfl) t_syntax, iface_laid h2.tail (by kernel_rfl) t_range⟩

theorem door_met (os : Os) (args : Array Value) : laidMetH Tryz.prog [("math/bits.deBruijn32tab", Rows.laid_math_bits_deBruijn32tab), ("math/bits.deBruijn64tab", Rows.laid_math_bits_deBruijn64tab), ("internal/strconv.uint64pow10", Rows.laid_internal_strconv_uint64pow10), ("strconv.ErrRange", Rows.laid_strconv_ErrRange), ("strconv.ErrSyntax", Rows.laid_strconv_ErrSyntax)] ((World.laidAll Tryz.prog os [("math/bits.deBruijn32tab", Rows.laid_math_bits_deBruijn32tab), ("math/bits.deBruijn64tab", Rows.laid_math_bits_deBruijn64tab), ("internal/strconv.uint64pow10", Rows.laid_internal_strconv_uint64pow10), ("strconv.ErrRange", Rows.laid_strconv_ErrRange), ("strconv.ErrSyntax", Rows.laid_strconv_ErrSyntax)]).forCall (fun _ _ => 0) ⟨#[], args, []⟩).memory := by
  rw [MakeChecks.laidMetH_plain _ _ _ (by kernel_rfl)]; exact laidMet_laidAll _ (by kernel_rfl) (by kernel_rfl)

end Go.Proofs.YtcopknopifbebaaGreatDoor

/-
  Law 11 (wal), WalRestarts: behind a Restart there is one segment, with just these records: for every input.
  Conditions: none.
-/
namespace Go.Proofs.YtcopknopifbebaaGreatDoor
open Go.RowKit Go.Bar Go.Bar.Wal Go.Bar.Leb Go.Bar.Frm Go.Conc Go.ChangeShapes Go.WideShapes Go.ChangeAt Go.Deep
attribute [local go_sem] Oper.semAt_some

theorem list_one (w : World) (h : Hd) (d : Ds) (c : Nat) (k : DkAt w h d) (ha : Wal.Acc c d) (hc : c ≤ 100000000) (p : List UInt8) (hp : p.length ≤ maxLen) {P : ByteArray} (hP : bs p = P) {n : Nm} (hn : d.list p = [n]) :
    Calls Tryz.prog 22 #[.pointer (some ⟨h.D, 0, none⟩), .string P] w fun e w' => ∃ A cp, e = .returned (.slice A 1 cp) ∧ Below w.heap.size w w' := by
  have hl := dList_any w h d c k ha hc p hp
  rw [hP] at hl
  refine hl.mono ?_
  rintro e w' ⟨v, rfl, hb, hbel⟩
  obtain ⟨A, cp, rfl, _⟩ := hb.shape
  refine ⟨A, cp, ?_, hbel⟩
  rw [hn]
  rfl
theorem fresh_lit (w : World) (h : Hd) (d : Ds) (B c : Nat) (n s : List UInt8) (k : DkAt w h d) (hB : h.Hi B) (ha : Wal.Acc c d) (hc : c ≤ 100000) (hr : d.room ≤ 10000000) (hn : n.length ≤ maxLen) (hs : s.length ≤ maxLen) {d' : Ds} (hf : fresh d n s = (0, d')) {N S : ByteArray} (hN : bs n = N) (hS : bs s = S) :
    Calls Tryz.prog 28 #[.pointer (some ⟨h.D, 0, none⟩), .string N, .string S] w (DkTo B w h d' (.int .i64 0)) := by
  have hl := fresh_anyw w h d B c n s k hB ha hc hr hn hs
  rw [hf, hN, hS] at hl
  exact hl
theorem read_lit (w : World) (h : Hd) (d : Ds) (k : DkAt w h d) (n : List UInt8) (hn : n.length ≤ maxLen) {s : List UInt8} (hd : d.read n = (s, 0)) {N S : ByteArray} (hN : bs n = N) (hS : bs s = S) :
    Calls Tryz.prog 23 #[.pointer (some ⟨h.D, 0, none⟩), .string N] w (RetBelow w (.tuple #[.string S, .int .i64 0])) := by
  have hl := dRead_any w h d k n hn
  rw [hd, hN] at hl
  simp only [hS] at hl
  exact hl
set_option maxHeartbeats 8000000 in
set_option maxRecDepth 10000 in
theorem walRestarts_walk0 (v0 : Value) (ls : List Rc) (v1 : Value) (ws : List Rc) (v2 : Value) (ms : List Rc) (limit : Int) (hwf : (Lit.int .i64 limit).wf = true) (w : World) (h0 : RecsAt w v0 ls ∧ ∀ r ∈ ls, r.2.length ≤ maxLen) (h1 : RecsAt w v1 ws ∧ ∀ r ∈ ws, r.2.length ≤ maxLen) (h2 : RecsAt w v2 ms ∧ ∀ r ∈ ms, r.2.length ≤ maxLen) (hE : EnvAt w) :
    Calls Tryz.prog 6 #[v0, v1, v2, .int .i64 limit] w (RetBelow w (.bool true)) := by
  have hlim := bounds_i64 hwf
  clear hwf
  have hB4 := hE.four
  obtain ⟨B, hBe⟩ : ∃ B, B = w.heap.size := ⟨_, rfl⟩
  rw [← hBe] at hB4
  -- what the calls do
  obtain ⟨F0, D0, C0⟩ := few4_few ls
  obtain ⟨F1, D1, C1⟩ := few4_few ws
  obtain ⟨F2, D2, C2⟩ := few4_few ms
  have hf0 := Lib.hid (fun wx hb => few11_any v0 ls wx (RecsAt.below h0.1 hb) h0.2)
  have hf1 := Lib.hid (fun wx hb => few11_any v1 ws wx (RecsAt.below h1.1 hb) h1.2)
  have hf2 := Lib.hid (fun wx hb => few11_any v2 ms wx (RecsAt.below h2.1 hb) h2.2)
  obtain ⟨X0, hX0⟩ : ∃ X, X = few4 ls := ⟨_, rfl⟩
  obtain ⟨X1, hX1⟩ : ∃ X, X = few4 ws := ⟨_, rfl⟩
  obtain ⟨X2, hX2⟩ : ∃ X, X = few4 ms := ⟨_, rfl⟩
  rw [← hX0] at F0 D0 C0 hf0
  rw [← hX1] at F1 D1 C1 hf1
  rw [← hX2] at F2 D2 C2 hf2
  rw [← hBe] at hf0 hf1 hf2
  clear hX0 hX1 hX2 h0 h1 h2
  have T0 := laid_short X0 (fun r hr => Nat.le_trans (D0 r hr) (by decide))
  have T1 := laid_short X1 (fun r hr => Nat.le_trans (D1 r hr) (by decide))
  have T2 := laid_short X2 (fun r hr => Nat.le_trans (D2 r hr) (by decide))
  have T3 : (laid (reset X1)).length ≤ 1000 := by
    unfold reset
    rw [laid_cons, List.length_append]
    have := rec_short ((255, []) : Rc) (Nat.zero_le _)
    omega
  obtain ⟨d1, g1, e1, R1⟩ := (RstI.start limit).app F0 (by omega) (by decide) (by decide)
  obtain ⟨d2, g2, m2, e2, R2, hl1, hl2⟩ := R1.rst F1 T3 (by decide) (by decide)
  obtain ⟨d3, g3, e3, R3⟩ := R2.app F2 (by omega) (by decide) (by decide)
  obtain ⟨d4, g4, e4, z4, a4, r4, u4⟩ := R3.open_ limit
  have hsin : since (reset X1 ++ X2) = X1 ++ X2 := since_reset [] [] (fun r hr => (List.mem_append.1 hr).elim (F1.knd r) (F2.knd r))
  rw [hsin] at e4
  obtain ⟨d5, e5, z5, a5, r5, u5, _⟩ := fresh_oth (s := [116, 101, 120, 116]) z4 a4 r4 u4 (by decide) (by decide)
  obtain ⟨d6, e6, z6, a6, r6, u6, f6⟩ := fresh_oth (s := [109, 111, 114, 101]) z5 a5 r5 u5 (by decide) (by decide)
  have hread := crash_read a6 f6 []
  have lim1 : g1.limit = max limit 1 := by have := wAppend_lim (Ds.new 1048576) ⟨max limit 1, 1, 0, false⟩ X0; rw [e1] at this; exact this
  have siz1 : g1.size ≤ 1000 := by have := wAppend_size (Ds.new 1048576) ⟨max limit 1, 1, 0, false⟩ X0; rw [e1] at this; have h : g1.size ≤ 0 + (laid X0).length := this; omega
  have lim2 : g2.limit = max limit 1 := by have := wRestart_lim d1 g1 X1; rw [e2] at this; exact this.trans lim1
  have siz2 : g2.size ≤ 2000 := by have := wRestart_size d1 g1 X1; rw [e2] at this; have h : g2.size ≤ g1.size + (laid (reset X1)).length := this; omega
  -- their contracts
  have hE0 := Lib.hid hE
  have hEx : ∀ wx, Below B w wx → EnvAt wx := fun wx hb => hE.bel hb hB4
  have HEX := Lib.hid hEx
  have hbs : ∀ wx, Off LTs B w wx → B ≤ wx.heap.size := fun wx o => by rw [hBe]; exact o.size
  have HBS := Lib.hid hbs
  clear hbs
  have hnew := Lib.hid (new_any w 1048576)
  rw [← hBe] at hnew
  have cO1 := Lib.hid (fun wx h (kx : DkAt wx h (Ds.new 1048576)) hx (hB : h.Hi B) => open_ok wx h _ B 0 limit _ _ _ (open_new 1048576 limit).1 kx hx hB hB4 (Acc.new _) (by decide) (by decide))
  have cA1 := Lib.hid (fun wx L h v (kx : DkAt wx h (Ds.new 1048576)) (lx : LgAt wx L h ⟨max limit 1, 1, 0, false⟩) hx (hB : h.Hi B) (hL : B ≤ L) (hv : RecsAt wx v X0) => append_ok wx L h _ _ B 0 v X0 _ _ _ e1 kx lx hx hB hL hB4 (Acc.new _) (by decide) (by decide) hv (by omega) (fun r hr => Nat.le_trans (D0 r hr) (by decide)) (by show 1 ≤ max limit 1; omega) (by show max limit 1 ≤ _; omega) (show (1:Nat) ≤ 1000000 by decide) (show (0:Nat) ≤ 1000000000 by decide))
  have cR := Lib.hid (fun wx L h v (kx : DkAt wx h d1) (lx : LgAt wx L h g1) hx (hB : h.Hi B) (hL : B ≤ L) (hv : RecsAt wx v X1) => restart_ok wx L h _ _ B 1 v X1 _ _ _ e2 kx lx hx hB hL hB4 R1.acc (by decide) (by rw [R1.rm]; decide) hv (by omega) (fun r hr => Nat.le_trans (D1 r hr) (by decide)) (by have := R1.sg; omega))
  have cL1 := Lib.hid (fun wx h (kx : DkAt wx h d2) => list_one wx h d2 2 kx R2.acc (by decide) pre (by decide) (P := { data := #[119, 97, 108, 45] }) rfl hl1)
  have cL2 := Lib.hid (fun wx h (kx : DkAt wx h d2) => list_one wx h d2 2 kx R2.acc (by decide) [] (by decide) (P := { data := #[] }) rfl hl2)
  have cA2 := Lib.hid (fun wx L h v (kx : DkAt wx h d2) (lx : LgAt wx L h g2) hx (hB : h.Hi B) (hL : B ≤ L) (hv : RecsAt wx v X2) => append_ok wx L h _ _ B 2 v X2 _ _ _ e3 kx lx hx hB hL hB4 R2.acc (by decide) (by rw [R2.rm]; decide) hv (by omega) (fun r hr => Nat.le_trans (D2 r hr) (by decide)) (by rw [lim2]; omega) (by rw [lim2]; omega) (by have := R2.sg; omega) (by omega))
  have cO2 := Lib.hid (fun wx h (kx : DkAt wx h d3) hx (hB : h.Hi B) => open_ok wx h _ B 3 limit _ _ _ e4 kx hx hB hB4 R3.acc (by decide) (by rw [R3.rm]; decide))
  have cF1 := Lib.hid (fun wx h (kx : DkAt wx h d4) (hB : h.Hi B) => fresh_lit wx h d4 B 3 othN [116, 101, 120, 116] kx hB a4 (by decide) (by rw [r4]; decide) (by decide) (by decide) e5 (N := { data := #[111, 116, 104, 101, 114] }) (S := { data := #[116, 101, 120, 116] }) rfl rfl)
  have cF2 := Lib.hid (fun wx h (kx : DkAt wx h d5) (hB : h.Hi B) => fresh_lit wx h d5 B 4 othN [109, 111, 114, 101] kx hB a5 (by decide) (by rw [r5]; decide) (by decide) (by decide) e6 (N := { data := #[111, 116, 104, 101, 114] }) (S := { data := #[109, 111, 114, 101] }) rfl rfl)
  have cC := Lib.hid (fun wx h (kx : DkAt wx h d6) (hB : h.Hi B) => crash_any wx h d6 B 5 kx hB a6 (by decide) (by rw [r6]; decide) none 0 [] (by decide) (fun w' _ => SlAt.of_buf (Buf.nil w' 3 1)))
  have cD := Lib.hid (fun wx h (kx : DkAt wx h (d6.crash [])) => read_lit wx h (d6.crash []) kx othN (by decide) hread (N := { data := #[111, 116, 104, 101, 114] }) (S := { data := #[109, 111, 114, 101] }) rfl rfl)
  have hnl : X1.length ≤ 4 ∧ X2.length ≤ 4 := ⟨C1, C2⟩
  obtain ⟨n1, n2⟩ := hnl
  clear hE hEx R1 R2 R3 e1 e2 e3 e4 e5 e6 hsin T0 T1 T2 T3 lim1 lim2 siz1 siz2 hl1 hl2 hread f6 u4 u5 u6 a4 a5 a6 z4 z5 z6 r4 r5 r6 F0 F1 F2 D0 D1 D2 C0 C1 C2
  go_enter Tryz.func6, Tryz.ntmps6
  go_upto_region 3 with (first
    | (go_at_call 11; refine hnew.out.mono ?_; rintro e w1 ⟨h, rfl, k1, hB, hb1⟩)
    | (go_at_call 12; refine (cO1.out w1 h k1 (HEX.out _ hb1) hB).mono ?_; rintro e w2 ⟨L, A, cp, rfl, k2, l2, hL, o2, _⟩))
  have O2 := Lib.hid ((show Off LTs B w w1 from ⟨Kc.of_below (by have := hb1; rwa [hBe] at this), hb1⟩).trans o2)
  clear o2 hb1 k1 hnew cO1
  go_upto_region 4 with (first
    | (go_at_call 16; refine (hf2.out w4 O4.out.bel).mono ?_; rintro e w5 ⟨x2, rfl, q2, hb5⟩)
    | (go_at_call 16; refine (hf1.out w3 O3.out.bel).mono ?_; rintro e w4 ⟨x1, rfl, q1, hb4⟩; have O4 := Lib.hid (O3.out.trans (Off.of_below hb4 (HBS.out _ O3.out))))
    | (go_at_call 16; refine (hf0.out w2 O2.out.bel).mono ?_; rintro e w3 ⟨x0, rfl, q0, hb3⟩; have O3 := Lib.hid (O2.out.trans (Off.of_below hb3 (HBS.out _ O2.out)))))
  have O5 := Lib.hid (O4.out.trans (Off.of_below hb5 (HBS.out _ O4.out)))
  have k5 := ((k2.below hb3).below hb4).below hb5
  have l5 := ((l2.below hb3).below hb4).below hb5
  have Q0 := Lib.hid ((q0.below hb4).below hb5)
  have Q1 := Lib.hid (q1.below hb5)
  have Q2 := Lib.hid q2
  clear O2 O3 O4 k2 l2 q0 q1 q2 hb3 hb4 hb5 hf0 hf1 hf2
  go_upto_region 6 with (first
    | (go_at_call 27; refine (cR.out w7 L h x1 k7 l7 (HEX.out _ O7.out.bel) hB hL (SlAt.of_buf (P7.out.kc.buf Q1.out nl_rec))).mono ?_; rintro e w8 ⟨rfl, k8, l8, o8⟩)
    | (go_at_call 14; refine (cA1.out w6 L h x0 k6 l6 (HEX.out _ O6.out.bel) hB hL (SlAt.of_buf (P6.out.kc.buf Q0.out nl_rec))).mono ?_; rintro e w7 ⟨rfl, k7, l7, o7⟩; have O7 := Lib.hid (O6.out.trans o7); have P7 := Lib.hid (P6.out.trans o7))
    | (go_at_call 17; refine (awake11_any w5 (HEX.out _ O5.out.bel)).mono ?_; rintro e w6 ⟨rfl, hb6⟩; have P6 := Lib.hid (Off.of_below (Ts := LTs) hb6 (HBS.out _ O5.out)); have O6 := Lib.hid (O5.out.trans P6.out); have k6 := k5.below hb6; have l6 := l5.below hb6))
  have O8 := Lib.hid (O7.out.trans o8)
  have P8 := Lib.hid (P7.out.trans o8)
  clear O5 O6 O7 P6 P7 o8 k5 l5 k6 l6 k7 l7 cA1 cR Q0
  go_upto_region 8 with (first
    | (go_at_call 22; refine (cL2.out w9 h k9).mono ?_; rintro e w10 ⟨A10, c10, rfl, hb10⟩)
    | (go_at_call 22; refine (cL1.out w8 h k8).mono ?_; rintro e w9 ⟨A9, c9, rfl, hb9⟩; have P9 := Lib.hid (P8.out.trans (Off.of_below hb9 (HBS.out _ O8.out))); have O9 := Lib.hid (O8.out.trans (Off.of_below hb9 (HBS.out _ O8.out))); have k9 := k8.below hb9; have l9 := l8.below hb9))
  have O10 := Lib.hid (O9.out.trans (Off.of_below hb10 (HBS.out _ O9.out)))
  have P10 := Lib.hid (P9.out.trans (Off.of_below hb10 (HBS.out _ O9.out)))
  have k10 := k9.below hb10
  have l10 := l9.below hb10
  clear O8 O9 P8 P9 hb9 hb10 k8 l8 k9 l9 cL1 cL2
  go_upto_region 11 with (first
    | (go_at_call 12; refine (cO2.out w11 h k11 (HEX.out _ O11.out.bel) hB).mono ?_; rintro e w12 ⟨L2, A2, cp2, rfl, k12, _, _, o12, hgot⟩)
    | (go_at_call 14; refine (cA2.out w10 L h x2 k10 l10 (HEX.out _ O10.out.bel) hB hL (SlAt.of_buf (P10.out.kc.buf Q2.out nl_rec))).mono ?_; rintro e w11 ⟨rfl, k11, l11, o11⟩; have O11 := Lib.hid (O10.out.trans o11); have P11 := Lib.hid (P10.out.trans o11)))
  have O12 := Lib.hid (O11.out.trans o12)
  have P12 := Lib.hid (P11.out.trans o12)
  have G12 := Lib.hid hgot
  clear O10 O11 P10 P11 k10 k11 l10 l11 o11 o12 hgot cA2 cO2
  go_upto_region 13 with (first
    | (go_at_call 28; refine (cF2.out w13 h k13 hB).mono ?_; rintro e w14 ⟨rfl, k14, o14⟩)
    | (go_at_call 28; refine (cF1.out w12 h k12 hB).mono ?_; rintro e w13 ⟨rfl, k13, o13⟩))
  have T14 := Lib.hid ((o13.wide dlt).trans (o14.wide dlt))
  clear cF1 cF2 o13 o14 k13
  go_upto_region 15 with (first
    | (go_at_call 23; refine (cD.out w15 h k15).mono ?_; rintro e w16 ⟨rfl, hb16⟩)
    | (go_at_call 19; refine (cC.out w14 h k14 hB).mono ?_; rintro e w15 ⟨rfl, k15, o15⟩))
  have T15 := Lib.hid (T14.out.trans (o15.wide dlt))
  have O15 := Lib.hid (O12.out.trans T15.out)
  have T16 := Lib.hid (T15.out.trans (Off.of_below hb16 (HBS.out _ O15.out)))
  have O16 := Lib.hid (O12.out.trans T16.out)
  have q1 := (P12.out.trans T16.out).kc.buf Q1.out nl_rec
  have q2 := (P12.out.trans T16.out).kc.buf Q2.out nl_rec
  have q3 := T16.out.kc.buf G12.out nl_rec
  have hbel : Below w.heap.size w w16 := by have := O16.out.bel; rwa [hBe] at this
  clear O12 O15 O16 P12 T14 T15 T16 Q1 Q2 G12 hb16 k12 k14 k15 cC cD o15
  obtain ⟨A1, c1, rfl, hlc1, hcm1⟩ := (RecsAt.shape (rs := X1) (SlAt.of_buf q1))
  obtain ⟨A3, c3, rfl, hlc3, hcm3⟩ := (RecsAt.shape (rs := X2) (SlAt.of_buf q2))
  unfold maxLen at hcm1 hcm3
  have hb0 : Below w16.heap.size w16 (w16.alloc (.cells #[] 34)) := (Below.refl _ _).alloc (Nat.le_refl _) _
  have hs1 := Lib.hid ((SlAt.below (SlAt.of_buf q1) hb0).src (P := Tryz.prog) (by decide) (t := 23) Tryz.underlying23 (frcs_one X1))
  have hz := Lib.hid (NBuf.lit0 (Below.refl _ w16) 34 2)
  have hlA : (X1 ++ X2).length = X1.length + X2.length := List.length_append
  have hsR : sameR (X1 ++ X2) (X1 ++ X2) = 0 := by unfold sameR; rw [if_pos rfl]
  have H2 : Hid (RecsAt w16 (.slice A3 X2.length c3) X2) := Lib.hid (SlAt.of_buf q2)
  have H3 : Hid (RecsAt w16 (.slice A2 (X1.length + X2.length) cp2) (X1 ++ X2)) := by
    have := SlAt.of_buf q3
    rw [hlA] at this
    refine Lib.hid ?_
    unfold RecsAt
    rw [hlA]
    exact this
  have HLA := Lib.hid hlA
  have HSR := Lib.hid hsR
  clear q1 q2 q3 hlA hsR
  go_upto_region 16 with (first
    | (go_at_call 15; refine (same11_any _ _ (X1 ++ X2) (X1 ++ X2) w18 (RecsAt.below H3.out hn6.out.below) hn6.out.slice).mono ?_; rw [HSR.out]; rintro e w19 ⟨rfl, q, rfl⟩)
    | (at_builtin; refine wpList_append_el_g (by rfl) (.tmp 100) (.tmp 101) 23 23 rfl rec_ty rfl hn5.out.buf rfl ((SlAt.below H2.out hn5.out.below).src (P := Tryz.prog) (by decide) (t := 23) Tryz.underlying23 (frcs_one X2)) (by simp only [maxLen]; omega) (by omega) ?_; intro v6 w18 hb6 ha6 hg6; have hn6 := hn5.out.step hb6 ha6 hg6; rw [List.nil_append, Nat.zero_add, ← frcs_append, ← HLA.out] at hn6; replace hn6 := Lib.hid hn6; clear hb6 ha6 hg6)
    | (at_builtin; refine wpList_append_el_g (by rfl) (.tmp 98) (.tmp 99) 23 23 rfl rec_ty rfl hz.out.buf rfl hs1.out (by simp only [maxLen]; omega) (by omega) ?_; intro v5 w17 hb5 ha5 hg5; have hn5 := Lib.hid (hz.out.step hb5 ha5 hg5); clear hb5 ha5 hg5))
  go_ret
  have hb18 := hn6.out.below
  exact ⟨rfl, hbel.trans ((hb18.trans ((below_draws _ _).mono hb18.size)).mono hbel.size)⟩
set_option maxHeartbeats 8000000 in
set_option maxRecDepth 100000 in
theorem walRestarts_lifted (os : Os) (started : os.Started) (H : Type) (enc : TypeId × Value → H) :
    ReturnsInHanded {} Tryz.checked os 6 .any (fun w args => (Rows.walRestartsSpec.pre enc Tryz.prog Tryz.f6 [] false w args ∧ laidMetH Tryz.prog [("math/bits.deBruijn32tab", Rows.laid_math_bits_deBruijn32tab), ("math/bits.deBruijn64tab", Rows.laid_math_bits_deBruijn64tab), ("internal/strconv.uint64pow10", Rows.laid_internal_strconv_uint64pow10), ("strconv.ErrRange", Rows.laid_strconv_ErrRange), ("strconv.ErrSyntax", Rows.laid_strconv_ErrSyntax)] w) ∧ sizedMet enc Tryz.prog Tryz.f6 (OpenSpec.ofChange Rows.walRestartsSpec) false w args)
      (Rows.walRestartsSpec.post enc Tryz.prog Tryz.f6 false true false false) := by
  refine returnsInHanded_of_change_and (C := Tryz.checked) (X := fun w _ => laidMetH Tryz.prog [("math/bits.deBruijn32tab", Rows.laid_math_bits_deBruijn32tab), ("math/bits.deBruijn64tab", Rows.laid_math_bits_deBruijn64tab), ("internal/strconv.uint64pow10", Rows.laid_internal_strconv_uint64pow10), ("strconv.ErrRange", Rows.laid_strconv_ErrRange), ("strconv.ErrSyntax", Rows.laid_strconv_ErrSyntax)] w) (fun _ _ _ hh h => h.of_heap hh) law_own started (by kernel_rfl) Tryz.func6
    (ChangeSpec.witness_shaped (enc := enc) (C := Tryz.checked) (os := os) (X := fun w _ => laidMetH Tryz.prog [("math/bits.deBruijn32tab", Rows.laid_math_bits_deBruijn32tab), ("math/bits.deBruijn64tab", Rows.laid_math_bits_deBruijn64tab), ("internal/strconv.uint64pow10", Rows.laid_internal_strconv_uint64pow10), ("strconv.ErrRange", Rows.laid_strconv_ErrRange), ("strconv.ErrSyntax", Rows.laid_strconv_ErrSyntax)] w) false (World.laidAll Tryz.prog os [("math/bits.deBruijn32tab", Rows.laid_math_bits_deBruijn32tab), ("math/bits.deBruijn64tab", Rows.laid_math_bits_deBruijn64tab), ("internal/strconv.uint64pow10", Rows.laid_internal_strconv_uint64pow10), ("strconv.ErrRange", Rows.laid_strconv_ErrRange), ("strconv.ErrSyntax", Rows.laid_strconv_ErrSyntax)]) #[.slice none 0 0, .slice none 0 0, .slice none 0 0, .int .i64 0] 8 (World.laidAll_os _ _ _)
      (World.shaped_of_ZipB (by kernel_rfl) (by kernel_rfl)) (by kernel_rfl) (by kernel_rfl) (by kernel_rfl) (door_met os _)) ?_
  intro W base args ds gs before hval0 hW _ _ hL _
  have hval : ∀ (j : Nat) t v, Tryz.f6.params[j]? = some t → args[j]? = some v → Value.okWide Tryz.prog W .any base t v := hval0
  have hW' := hW
  obtain ⟨p, q, hA0, hV, rfl, _, _⟩ := hW
  have hA : DataW.TrodAll enc Tryz.prog W 0 (fun _ => true) true Tryz.f6.params.toList args.toList ds p := hA0
  rw [Tryz.params6] at hA hval
  obtain ⟨v0, vs0, d0, ds0, p0, q0, hargs, rfl, rfl, h0, r0⟩ := trodAll_cons hA
  obtain ⟨v1, vs1, d1, ds1, p1, q1, rfl, rfl, rfl, h1, r1⟩ := trodAll_cons r0
  obtain ⟨v2, vs2, d2, ds2, p2, q2, rfl, rfl, rfl, h2, r2⟩ := trodAll_cons r1
  obtain ⟨v3, vs3, d3, ds3, p3, q3, rfl, rfl, rfl, h3, r3⟩ := trodAll_cons r2
  obtain ⟨rfl, rfl, rfl⟩ := trodAll_nil r3
  obtain rfl : args = #[v0, v1, v2, v3] := by cases args; simp_all
  obtain ⟨rfl, rfl⟩ := trodVars_none hV
  obtain ⟨a3, rfl, rfl, rfl, w3⟩ := open_int Tryz.underlying3 (hval 3 3 v3 rfl rfl) h3
  obtain ⟨ts0, hts0⟩ := open_recs (hval 0 23 v0 rfl rfl) h0
  obtain ⟨ts1, hts1⟩ := open_recs (hval 1 23 v1 rfl rfl) h1
  obtain ⟨ts2, hts2⟩ := open_recs (hval 2 23 v2 rfl rfl) h2
  refine (walRestarts_walk0 v0 ts0 v1 ts1 v2 ts2 a3 w3 W hts0 hts1 hts2 (of_laid hL)).mono fun e W' ⟨he, hb⟩ => ?_
  subst he
  exact ⟨_, rfl, law_post law_laid (by intro t ht; rw [Tryz.params6] at ht; simp only [List.mem_cons, List.not_mem_nil, or_false] at ht; rcases ht with rfl | rfl | rfl | rfl <;> exact ⟨by kernel_rfl, of_decide_eq_true (by kernel_rfl)⟩) rfl Tryz.underlying4 rfl rfl hW' hb⟩

theorem walRestarts_holds : Rows.WalRestartsSaid :=
  OpenClaim.holds_of_wide 6 Tryz.f6 rfl rfl rfl rfl rfl rfl rfl ⟨rfl, rfl, rfl, rfl, rfl⟩ rfl rfl rfl rfl rfl (by kernel_rfl) Tryz.func6 (by kernel_rfl)
    (of_decide_eq_true (by kernel_rfl)) (by unfold Func.isWrapper; first | (rw [if_pos (by decide +kernel)]; kernel_rfl) | (rw [if_neg (by decide +kernel)]; exact ⟨rfl, rfl⟩))
    (fun os started H enc _ => walRestarts_lifted os started H enc)

theorem walRestarts_card : Rows.WalRestartsCardSaid :=
  Claim7.holds_tied_plain_at .later [] [.data, .data, .data, .sentinel, .sentinel] true (true, "35d3756c6aaeeb34e9de177c5e9e73e9b2e83cd5c1c91c172043f2b2604cd02a") true
    walRestarts_holds (fun _ h => by cases h) (by kernel_rfl) (fun _ h => by cases h) walRestarts_row_tie rfl ⟨rfl, rfl⟩ (by kernel_rfl) rfl
    (fun f fn hf hfn => by
      obtain rfl : f = 6 := Option.some.inj ((show Tryz.prog.funcNamed "barograph/barographlaw11.WalRestarts" = some 6 by kernel_rfl).symm.trans hf) |>.symm
      obtain rfl : fn = Tryz.f6 := (Option.some.inj (Tryz.func6.symm.trans hfn)).symm
      exact ⟨by kernel_rfl, fun j t ht => by
        rw [Tryz.params6] at ht
        rcases j with _ | j
        · obtain rfl : t = 23 := by simpa using ht.symm
          exact (show Tryz.prog.wantsStandIn 23 = false by kernel_rfl)
        rcases j with _ | j
        · obtain rfl : t = 23 := by simpa using ht.symm
          exact (show Tryz.prog.wantsStandIn 23 = false by kernel_rfl)
        rcases j with _ | j
        · obtain rfl : t = 23 := by simpa using ht.symm
          exact (show Tryz.prog.wantsStandIn 23 = false by kernel_rfl)
        rcases j with _ | j
        · obtain rfl : t = 3 := by simpa using ht.symm
          exact (show Tryz.prog.wantsStandIn 3 = false by kernel_rfl)
        simp at ht⟩)
    (by kernel_rfl)

end Go.Proofs.YtcopknopifbebaaGreatDoor
