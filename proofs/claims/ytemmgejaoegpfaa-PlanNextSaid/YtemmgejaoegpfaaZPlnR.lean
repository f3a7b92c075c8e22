/-
  Layers 10 and 20: the walks of the document's Made and Free.
-/
import Derived.Test.YtemmgejaoegpfaaZPlnK
import Derived.Test.YtemmgejaoegpfaaZPlnM
import Derived.Test.YtemmgejaoegpfaaZPlnC
import Derived.Test.YtemmgejaoegpfaaZLib9
import Derived.Test.YtemmgejaoegpfaaZLib5

namespace Go.Proofs.Ytemmgejaoegpfaa
open Go.RowKit Go.Bar Go.Bar.Leb Go.Bar.Frm Go.Bar.Idt Go.Bar.Met Go.Bar.Pln

/-- blocks, the document's, at w; their slices there at w0 -/
def BsAt (w0 w : World) (v : Value) (ts : List (Mv × Int)) : Prop := SlAt w 9 v ts.length (bls ts) ∧ ∀ x ∈ ts, MAt w0 x.1
/-- their metas -/
def mtsB (ts : List (Mv × Int)) : List Mt := ts.map (·.1.m)
section
variable {w0 w w' : World} {v : Value} {ts : List (Mv × Int)}
theorem BsAt.below (h : BsAt w0 w v ts) (hb : Below w.heap.size w w') : BsAt w0 w' v ts := ⟨h.1.below hb, h.2⟩
theorem BsAt.shape (h : BsAt w0 w v ts) : ∃ A c, v = .slice A ts.length c ∧ ts.length ≤ c ∧ c ≤ maxLen := h.1.shape
theorem BsAt.at_ {A : Option Addr} {n c i : Nat} {x : Mv × Int} (h : BsAt w0 w (.slice A n c) ts) (hi : ts[i]? = some x) : ∃ b o, A = some ⟨b, o, none⟩ ∧ MAt w0 x.1 ∧
    w.cell? ⟨b, o + i * 9, none⟩ = some (.string (bs x.1.m.id)) ∧ w.cell? ⟨b, o + i * 9 + 1, none⟩ = some (.int .i64 x.1.m.mn) ∧ w.cell? ⟨b, o + i * 9 + 2, none⟩ = some (.int .i64 x.1.m.mx) ∧ w.cell? ⟨b, o + i * 9 + 3, none⟩ = some (.int .i64 x.1.m.lv) ∧
    w.cell? ⟨b, o + i * 9 + 4, none⟩ = some (.int .i64 x.1.m.sr) ∧ w.cell? ⟨b, o + i * 9 + 5, none⟩ = some (.int .i64 x.1.m.sm) ∧ w.cell? ⟨b, o + i * 9 + 6, none⟩ = some (.slice x.1.fa x.1.m.fs.length x.1.fc) ∧ w.cell? ⟨b, o + i * 9 + 7, none⟩ = some (.slice x.1.sa x.1.m.ss.length x.1.sc) ∧ w.cell? ⟨b, o + i * 9 + 8, none⟩ = some (.int .i64 x.2) := by
  obtain ⟨h2, h3⟩ := h
  have hlt : i < ts.length := (List.getElem?_eq_some_iff.1 hi).1
  obtain ⟨A', c', he, _⟩ := h2.shape
  injection he with e1 e2 e3
  subst e1; subst e2; subst e3
  obtain ⟨b, o, rfl, hb, hc⟩ := SlAt.cells h2 (by omega)
  have g := flat_get encB 9 encB_nine ts i x hi
  exact ⟨b, o, rfl, h3 x (List.mem_of_getElem? hi), hc _ _ (g 0 (by omega)), hc _ _ (g 1 (by omega)), hc _ _ (g 2 (by omega)), hc _ _ (g 3 (by omega)), hc _ _ (g 4 (by omega)), hc _ _ (g 5 (by omega)), hc _ _ (g 6 (by omega)), hc _ _ (g 7 (by omega)), hc _ _ (g 8 (by omega))⟩
end
theorem mtsB_at {ts : List (Mv × Int)} {i : Nat} {x : Mv × Int} (h : ts[i]? = some x) : (mtsB ts)[i]? = some x.1.m := by unfold mtsB; rw [List.getElem?_map, h]; rfl
theorem mtsB_take (ts : List (Mv × Int)) (k : Nat) : mtsB (ts.take k) = (mtsB ts).take k := List.map_take
/-- the cells of a block -/
abbrev cB (x : Mv) (z : Int) : Array Value := #[.string (bs x.m.id), .int .i64 x.m.mn, .int .i64 x.m.mx, .int .i64 x.m.lv, .int .i64 x.m.sr, .int .i64 x.m.sm, .slice x.fa x.m.fs.length x.fc, .slice x.sa x.m.ss.length x.sc, .int .i64 z]
abbrev cM (x : Mv) : Array Value := #[.string (bs x.m.id), .int .i64 x.m.mn, .int .i64 x.m.mx, .int .i64 x.m.lv, .int .i64 x.m.sr, .int .i64 x.m.sm, .slice x.fa x.m.fs.length x.fc, .slice x.sa x.m.ss.length x.sc]

set_option maxHeartbeats 4000000 in
set_option maxRecDepth 10000 in
theorem made_any10 (at_ : Int) (v : Value) (ts : List (Mv × Int)) (id : List UInt8) (w : World) (h : BsAt w w v ts) (hn : (srcs (mtsB ts)).length ≤ 1000000000) :
    Calls Try.prog 25 #[.agg #[.int .i64 at_, v], .string (bs id)] w (RetBelow w (.int .i64 (gone (mtsB ts) id : Nat))) := by
  obtain ⟨A, c, rfl, hlc, hcm⟩ := h.shape
  unfold maxLen at hcm
  obtain ⟨G, hG⟩ : ∃ G, G = gone (mtsB ts) id := ⟨_, rfl⟩
  rw [← hG]
  have HG := Lib.hid hG
  have HT := Lib.hid h
  have HN : Hid (∀ k, (srcs ((mtsB ts).take k)).length ≤ 1000000000) := Lib.hid (fun k => by
    have h1 : (srcs (mtsB ts)).length = (srcs ((mtsB ts).take k)).length + (srcs ((mtsB ts).drop k)).length := by
      rw [← List.length_append, ← srcs_append, List.take_append_drop]
    omega)
  clear h hG hn
  have hb0 := below_al w (.cells #[.int .i64 at_, .slice A ts.length c] 29)
  go_enter Try.func25, Try.ntmps25
  go_wp2_with fail
  go_loopw [5, 13] (fun n i wr => ∃ k m : Nat, i = .int .i64 k ∧ k ≤ ts.length ∧ n = .int .i64 m ∧ Below w.heap.size w wr ∧ Hid (m = (srcs ((mtsB ts).take k)).count id)) (fun _ i _ => ts.length - (intOf i).toNat)
  case atStart => exact ⟨0, 0, rfl, Nat.zero_le _, rfl, hb0, Lib.hid (by simp [srcs])⟩
  case round =>
    obtain ⟨k, m, rfl, hk, rfl, hb, HM⟩ := hrel
    clear hb0
    by_cases hgo : k < ts.length
    · obtain ⟨⟨x, z⟩, hx⟩ : ∃ x, ts[k]? = some x := ⟨_, List.getElem?_eq_getElem hgo⟩
      obtain ⟨b, o, rfl, hma, c0, c1, c2, c3, c4, c5, c6, c7, c8⟩ := (HT.out.below hb).at_ hx
      dsimp only at hma c0 c1 c2 c3 c4 c5 c6 c7 c8
      have hs2 := srcs_take' (mtsB_at hx)
      dsimp only at hs2
      have hN1 := HN.out (k + 1)
      rw [hs2, List.length_append] at hN1
      obtain ⟨L, hL⟩ : ∃ L, L = srcs ((mtsB ts).take k) := ⟨_, rfl⟩
      rw [← hL] at hs2 hN1 HM
      have hci : (k : Int) < (ts.length : Int) := by omega
      have hci0 : (0 : Int) ≤ (k : Int) := by omega
      have hsr := hma.2
      obtain ⟨_, _, he, _, hsm⟩ := hsr.shape
      injection he with e1 _ e3
      subst e1; subst e3
      unfold maxLen at hsm
      have hbx := below_trans hb (below_al wr (.cells (cB x z) 70))
      have hcl := List.count_le_length (l := L) (a := id)
      have HS2 := Lib.hid hs2
      have HSR := Lib.hid hsr
      have hml : m ≤ L.length := by rw [HM.out]; exact hcl
      clear hx hma hL hs2 hb hsr hcl
      go_wp2_with fail
      go_loopw [5, 9, 21] (fun n _ j wi => ∃ q m : Nat, j = .int .i64 q ∧ q ≤ x.m.ss.length ∧ n = .int .i64 m ∧ Below w.heap.size w wi ∧ Hid (m = (L ++ x.m.ss.take q).count id)) (fun _ _ j _ => x.m.ss.length - (intOf j).toNat)
      case atStart => exact ⟨0, m, rfl, Nat.zero_le _, rfl, hbx, Lib.hid (by rw [List.take_zero, List.append_nil]; exact HM.out)⟩
      case round =>
        obtain ⟨q, m, rfl, hq, rfl, hb2, HM2⟩ := hrel
        clear hbx hml HM
        by_cases hgo2 : q < x.m.ss.length
        · obtain ⟨s, hs⟩ : ∃ s, x.m.ss[q]? = some s := ⟨_, List.getElem?_eq_getElem hgo2⟩
          obtain ⟨b2, o2, hA2, _, d0⟩ := (HSR.out.below hb2).at_ hs
          have HA2 := Lib.hid hA2
          have hms := HM2.out
          have hcl := List.count_le_length (l := L ++ x.m.ss.take q) (a := id)
          rw [← hms, List.length_append, List.length_take] at hcl
          have hst : (L ++ x.m.ss.take (q + 1)).count id = m + (if s = id then 1 else 0) := by
            rw [List.take_add_one, hs, Option.toList_some, ← List.append_assoc, List.count_append, ← hms, List.count_singleton]
            simp [beq_iff_eq]
          have HST := Lib.hid hst
          have hqi : (q : Int) < (x.m.ss.length : Int) := by omega
          have hqi0 : (0 : Int) ≤ (q : Int) := by omega
          have hm9 : m < 9000000000 := by omega
          clear hs hms hst hcl HM2
          rw [HA2.out]
          by_cases he : s = id
          · have hd : (s == id) = true := by rw [beq_iff_eq]; exact he
            have HS3 : Hid (m + 1 = (L ++ x.m.ss.take (q + 1)).count id) := Lib.hid (by rw [HST.out, if_pos he])
            clear he HST
            go_wp2_with fail
            go_roundw
            case rel => exact ⟨q + 1, m + 1, by go_num, by omega, by go_num, hb2, HS3⟩
            case measure => simp [intOf]; omega
          · have hd : (s == id) = false := by rw [beq_eq_false_iff_ne]; exact he
            have HS3 : Hid (m = (L ++ x.m.ss.take (q + 1)).count id) := Lib.hid (by rw [HST.out, if_neg he]; rfl)
            clear he HST
            go_wp2_with fail
            go_roundw
            case rel => exact ⟨q + 1, m, by go_num, by omega, rfl, hb2, HS3⟩
            case measure => simp [intOf]; omega
        · obtain rfl : q = x.m.ss.length := by omega
          have hms := HM2.out
          rw [List.take_length, ← HS2.out] at hms
          have HM3 := Lib.hid hms
          clear hms HM2
          go_wp2_with fail
          go_roundw
          case rel => exact ⟨k + 1, m, by go_num, by omega, rfl, hb2, HM3⟩
          case measure => simp [intOf]; omega
    · obtain rfl : k = ts.length := by omega
      have hms := HM.out
      rw [List.take_of_length_le (by unfold mtsB; rw [List.length_map]; exact Nat.le_refl _)] at hms
      have hz : m = G := hms.trans HG.out.symm
      subst hz
      clear hms HM HG
      go_wp2_with fail
      go_ret
      exact ⟨rfl, hb⟩

theorem rmeta_ty : ElemTy Try.prog 36 67 (.agg #[.string ByteArray.empty, .int .i64 0, .int .i64 0, .int .i64 0, .int .i64 0, .int .i64 0, .slice none 0 0, .slice none 0 0]) 8 104 :=
  ⟨Try.underlying36, info_parts (show (Try.prog.info? 67).map (fun i => (i.zero, i.size, i.bytes)) = some (some (.agg #[.string ByteArray.empty, .int .i64 0, .int .i64 0, .int .i64 0, .int .i64 0, .int .i64 0, .slice none 0 0, .slice none 0 0]), 8, 104) by kernel_rfl), rfl⟩
/-- metas, the document's, in a buffer of the call's own -/
def RetM9 (w0 w : World) (l : List Mt) (e : Ending) (w' : World) : Prop := ∃ v, e = .returned v ∧ NMs w0 w w' 67 v l
theorem ins_step {x y : Mt} {r N L : List Mt} (d : Bool) (h : L = N ++ (bif d then y :: r else ins x (y :: r))) : L = (if !d && lt2 x y then (N ++ [x]) ++ [y] else N ++ [y]) ++ (bif (d || lt2 x y) then r else ins x r) := by
  rw [h]
  cases d
  · rw [cond_false, ins_cons]
    cases lt2 x y <;> simp
  · simp
theorem ins_len (x : Mt) (l : List Mt) : (ins x l).length = l.length + 1 := by rw [(ins_perm x l).length_eq]; rfl
theorem srt_len (l : List Mt) : (srt l).length = l.length := (srt_perm l).length_eq
theorem filter_take' {l : List Mt} {k : Nat} {m : Mt} {p : Mt → Bool} (h : l[k]? = some m) : (l.take (k + 1)).filter p = (l.take k).filter p ++ (if p m then [m] else []) := by
  rw [List.take_add_one, h, List.filter_append]
  congr 1
  cases hp : p m <;> simp [hp]

theorem blk_ap_ne {w w' : World} {M sz : Nat} {T : TypeId} {cur : Array Value} {v : Value} (h : Blk w M T cur) (ha : Ap w w' sz v) (hne : v.ownBlock ≠ some M) : Blk w' M T cur := by
  have hM : M < w.heap.size := h.lt
  rcases ha.block M hM with h1 | ⟨o, n', c, cur', cur2, e', fr, hv, _⟩
  · exact h1.trans h
  · exact absurd (by rw [hv]; rfl) hne

set_option maxHeartbeats 16000000 in
set_option maxRecDepth 10000 in
theorem free_any20 (at_ : Int) (v : Value) (ts : List (Mv × Int)) (mk : Marks) (w0 w : World) (hw0 : Below w0.heap.size w0 w) (h : BsAt w0 w v ts) (hl : ts.length ≤ 1000) (hn : (srcs (mtsB ts)).length ≤ 1000000000) (hm : ∀ x ∈ ts, (0 ≤ x.2 ↔ (mk x.1.m.id).isNone = false)) :
    Calls Try.prog 15 #[.agg #[.int .i64 at_, v]] w (RetM9 w0 w (free (mtsB ts) mk)) := by
  obtain ⟨A, c, rfl, hlc, hcm⟩ := h.shape
  unfold maxLen at hcm
  obtain ⟨R, hR⟩ : ∃ R, R = free (mtsB ts) mk := ⟨_, rfl⟩
  obtain ⟨p, hp⟩ : ∃ p : Mt → Bool, p = fun m => (gone (mtsB ts) m.id == 0) && (mk m.id).isNone := ⟨_, rfl⟩
  have hR2 : R = srt ((mtsB ts).filter p) := by
    rw [hR, hp]
    unfold free freeU live
    rw [List.filter_filter]
    congr 1
    refine List.filter_congr fun m _ => ?_
    rw [Bool.and_comm]
  have hpm : ∀ m, p m = ((gone (mtsB ts) m.id == 0) && (mk m.id).isNone) := fun m => by rw [hp]
  rw [← hR]
  have HR := Lib.hid hR2
  have HPM := Lib.hid hpm
  have HMK := Lib.hid hm
  have HT := Lib.hid h
  have HMD := Lib.hid (fun w' (hb : Below w.heap.size w w') id => made_any10 at_ _ ts id w' ⟨h.1.below hb, fun x hx => (h.2 x hx).below (below_trans hw0 hb)⟩ hn)
  obtain ⟨W, hW⟩ : ∃ W, W = w.alloc (.cells #[.int .i64 at_, .slice A ts.length c] 29) := ⟨_, rfl⟩
  have hbW : Below w.heap.size w W := by rw [hW]; exact below_al _ _
  have HX : Hid (Blk W w.heap.size 29 #[.int .i64 at_, .slice A ts.length c]) := Lib.hid (by rw [hW]; exact Blk.new _ _ _)
  have hn0 := NMs.lit0 hbW w0 67
  have hWs : W.heap.size = w.heap.size + 1 := by rw [hW]; simp
  have HWS := Lib.hid hWs
  rw [hWs] at hn0
  have HN0 := Lib.hid hn0
  have HBW := Lib.hid hbW
  clear h hR hR2 hp hpm hm hn hbW hn0 hWs hw0
  go_enter Try.func15, Try.ntmps15
  go_upto_region 2 with fail
  rw [← hW]
  clear hW
  obtain ⟨X, hXe⟩ : ∃ X, X = w.heap.size := ⟨_, rfl⟩
  obtain ⟨W1, hW1⟩ : ∃ W1, W1 = W.alloc (.cells #[] 67) := ⟨_, rfl⟩
  have hbW1 : Below W.heap.size W W1 := by rw [hW1]; exact below_al _ _
  rw [← hXe] at HX
  have HX1 := Lib.hid (HX.out.below hbW1)
  rw [← hW1] at HN0 ⊢
  rw [← hXe] at HN0 ⊢
  clear hW1 HX hXe
  obtain ⟨x0, x1⟩ := HX1.out.c2
  go_wp2_with fail
  clear x0 x1
  go_loopw [3, 14] (fun ov i wr => ∃ k : Nat, i = .int .i64 k ∧ k ≤ ts.length ∧ Hid (Blk wr X 29 #[.int .i64 at_, .slice A ts.length c]) ∧ Hid (NMs w0 w wr 67 ov (srt (((mtsB ts).take k).filter p)))) (fun _ i _ => ts.length - (intOf i).toNat)
  case atStart => exact ⟨0, rfl, Nat.zero_le _, HX1, HN0⟩
  case round =>
    obtain ⟨k, rfl, hk, HXR, HNO⟩ := hrel
    clear HN0 HX1
    have hbr := HNO.out.below_
    obtain ⟨OA, oc, rfl, hoc, hom⟩ := HNO.out.shape
    unfold maxLen at hom
    obtain ⟨O, hO⟩ : ∃ O, O = srt (((mtsB ts).take k).filter p) := ⟨_, rfl⟩
    have hOl : O.length ≤ 1000 := by
      rw [hO, srt_len]
      refine Nat.le_trans (List.length_filter_le _ _) ?_
      rw [List.length_take]; omega
    rw [← hO] at HNO hoc ⊢
    by_cases hgo : k < ts.length
    · obtain ⟨⟨x, z⟩, hx⟩ : ∃ x, ts[k]? = some x := ⟨_, List.getElem?_eq_getElem hgo⟩
      obtain ⟨b, o, rfl, hma, c0, c1, c2, c3, c4, c5, c6, c7, c8⟩ := (HT.out.below hbr).at_ hx
      dsimp only at hma c0 c1 c2 c3 c4 c5 c6 c7 c8
      have hft := filter_take' (p := p) (mtsB_at hx)
      dsimp only at hft
      have hmk := HMK.out _ (List.mem_of_getElem? hx)
      dsimp only at hmk
      have hpx := HPM.out x.m
      have HMA := Lib.hid hma
      obtain ⟨wb, hwb⟩ : ∃ wb, wb = wr.alloc (.cells (cB x z) 70) := ⟨_, rfl⟩
      have hb2 : Below wr.heap.size wr wb := by rw [hwb]; exact below_al _ _
      have HY : Hid (Blk wb wr.heap.size 70 (cB x z)) := Lib.hid (by rw [hwb]; exact Blk.new _ _ _)
      have HXB := Lib.hid (HXR.out.below hb2)
      have HNB := Lib.hid (HNO.out.then_below hb2)
      obtain ⟨G, hG⟩ : ∃ G, G = gone (mtsB ts) x.m.id := ⟨_, rfl⟩
      have hmd := HMD.out wb (below_trans hbr hb2) x.m.id
      rw [← hG] at hmd hpx
      have HMDX := Lib.hid hmd
      have hci : (k : Int) < (ts.length : Int) := by omega
      have hci0 : (0 : Int) ≤ (k : Int) := by omega
      have hbb := below_trans hbr hb2
      have HFT := Lib.hid (And.intro hft hO)
      clear hx hma hft hO hG hmd hbr
      go_upto_region 5 with fail
      have hwb' : wb = wr.alloc (.cells #[.string (bs x.m.id), .int .i64 x.m.mn, .int .i64 x.m.mx, .int .i64 x.m.lv, .int .i64 x.m.sr, .int .i64 x.m.sm, .slice x.fa x.m.fs.length x.fc, .slice x.sa x.m.ss.length x.sc, .int .i64 z] 70) := hwb
      rw [← hwb']
      obtain ⟨Y, hYe⟩ : ∃ Y, Y = wr.heap.size := ⟨_, rfl⟩
      rw [← hYe] at HY ⊢
      clear hwb hwb' hYe hb2 c0 c1 c2 c3 c4 c5 c6 c7 c8 HXR HNO
      obtain ⟨y0, y1, y2, y3, y4, y5, y6, y7, y8⟩ := HY.out.c9
      obtain ⟨x0, x1⟩ := HXB.out.c2
      have hcase : (0 ≤ z ∧ p x.m = false) ∨ (z < 0 ∧ 0 < G ∧ p x.m = false) ∨ (z < 0 ∧ G = 0 ∧ p x.m = true) := by
        rcases Int.lt_or_le z 0 with hz | hz
        · have hnn : (mk x.m.id).isNone = true := by
            cases h : (mk x.m.id).isNone
            · have := hmk.2 h; omega
            · rfl
          rw [hnn, Bool.and_true] at hpx
          rcases Nat.eq_zero_or_pos G with hg | hg
          · exact .inr (.inr ⟨hz, hg, by rw [hpx, hg]; rfl⟩)
          · exact .inr (.inl ⟨hz, hg, by rw [hpx, beq_eq_false_iff_ne]; omega⟩)
        · have hnn := hmk.1 hz
          exact .inl ⟨hz, by rw [hpx, hnn, Bool.and_false]⟩
      have hsame : p x.m = false → srt (((mtsB ts).take (k + 1)).filter p) = O := fun hp => by
        rw [HFT.out.1, hp, HFT.out.2]; simp
      have hnext : p x.m = true → srt (((mtsB ts).take (k + 1)).filter p) = ins x.m O := fun hp => by
        rw [HFT.out.1, hp, if_pos rfl, srt_snoc, HFT.out.2]
      have HSA := Lib.hid hsame
      have HNE := Lib.hid hnext
      clear hmk hpx hsame hnext HFT
      rcases hcase with ⟨hz, hp⟩ | ⟨hz, hg, hp⟩ | ⟨hz, hg, hp⟩
      · have HN2 : Hid (NMs w0 w wb 67 (.slice OA O.length oc) (srt (((mtsB ts).take (k + 1)).filter p))) := Lib.hid (by rw [HSA.out hp]; exact HNB.out)
        clear hp HSA HNE HNB
        go_wp2_with fail
        go_roundw
        case rel => exact ⟨k + 1, by go_num, by omega, HXB, HN2⟩
        case measure => simp [intOf]; omega
      · have HN2 : Hid (NMs w0 w wb 67 (.slice OA O.length oc) (srt (((mtsB ts).take (k + 1)).filter p))) := Lib.hid (by rw [HSA.out hp]; exact HNB.out)
        have hg2 : (0 : Int) < (G : Int) := by omega
        clear hp HSA HNE HNB
        go_wp2_with fail
        refine HMDX.out.mono ?_
        rintro e w5 ⟨rfl, hb5⟩
        have HN3 := Lib.hid (HN2.out.then_below hb5)
        have HX3 := Lib.hid (HXB.out.below hb5)
        clear HN2 HXB hb5 x0 x1 y0 y1 y2 y3 y4 y5 y6 y7 y8
        go_wp2_with fail
        go_roundw
        case rel => exact ⟨k + 1, by go_num, by omega, HX3, HN3⟩
        case measure => simp [intOf]; omega
      · subst hg
        have HNX := Lib.hid (HNE.out hp)
        clear hp HSA HNE
        go_wp2_with fail
        refine HMDX.out.mono ?_
        rintro e w5 ⟨rfl, hb5⟩
        have HN5 := Lib.hid (HNB.out.then_below hb5)
        have HX5 := Lib.hid (HXB.out.below hb5)
        have HY5 := Lib.hid (HY.out.below hb5)
        clear HNB HXB HY hb5 HMDX x0 x1 y0 y1 y2 y3 y4 y5 y6 y7 y8
        go_upto_region 7 with fail
        have hn0 := NMs.lit0 (Below.refl w5.heap.size w5) w0 67
        have HN0 := Lib.hid hn0
        have hs6 : w5.heap.size < (w5.alloc (.cells #[] 67)).heap.size := by simp
        obtain ⟨w6, hw6⟩ : ∃ w6, w6 = w5.alloc (.cells #[] 67) := ⟨_, rfl⟩
        rw [← hw6] at HN0 hs6 ⊢
        obtain ⟨Z, hZe⟩ : ∃ Z, Z = w5.heap.size := ⟨_, rfl⟩
        rw [← hZe] at HN0 hs6 ⊢
        have HOW0 : Hid (∀ u, (Value.slice (some ⟨Z, 0, none⟩) 0 0).ownBlock = some u → u < w6.heap.size) := Lib.hid (fun u hu => by simp [Value.ownBlock] at hu; subst hu; exact hs6)
        clear hn0 hw6 hZe hs6
        go_wp2_with fail
        go_loopw [6, 7, 32] (fun nx dn j wi => ∃ (q : Nat) (d : Bool) (N : List Mt), j = .int .i64 q ∧ q ≤ O.length ∧ dn = .bool d ∧ N.length ≤ q + d.toNat ∧ Hid (NMs w0 w5 wi 67 nx N) ∧ Hid (∀ u, nx.ownBlock = some u → u < wi.heap.size) ∧ Hid (ins x.m O = N ++ (bif d then O.drop q else ins x.m (O.drop q)))) (fun _ _ j _ => O.length - (intOf j).toNat)
        case atStart => exact ⟨0, false, [], rfl, Nat.zero_le _, rfl, Nat.zero_le _, HN0, HOW0, Lib.hid rfl⟩
        case round =>
          obtain ⟨q, d, N, rfl, hq, rfl, hNl, HN, HOW, HE⟩ := hrel
          clear HN0 HOW0
          have hd1 := Bool.toNat_le d
          have hb7 := HN.out.below_
          obtain ⟨NA, nc, rfl, hnc, hnm⟩ := HN.out.shape
          unfold maxLen at hnm
          by_cases hgo2 : q < O.length
          · obtain ⟨y, hy⟩ : ∃ y, O[q]? = some y := ⟨_, List.getElem?_eq_getElem hgo2⟩
            obtain ⟨bb, oo, yv, rfl, _, hym, hya, d0, d1, d2, d3, d4, d5, d6, d7⟩ := (HN5.out.slice.below hb7).at_ hy
            have hdr : O.drop q = y :: O.drop (q + 1) := by
              obtain ⟨hlt, rfl⟩ := List.getElem?_eq_some_iff.1 hy
              exact List.drop_eq_getElem_cons hlt
            have hst := HE.out
            rw [hdr] at hst
            have hst := ins_step d hst
            subst hym
            have HST := Lib.hid hst
            have HYA := Lib.hid hya
            obtain ⟨wm, hwm⟩ : ∃ wm, wm = wr.alloc (.cells (cM yv) 67) := ⟨_, rfl⟩
            have hb8 : Below wr.heap.size wr wm := by rw [hwm]; exact below_al _ _
            have HM : Hid (Blk wm wr.heap.size 67 (cM yv)) := Lib.hid (by rw [hwm]; exact Blk.new _ _ _)
            have HN8 := Lib.hid (HN.out.then_below hb8)
            have hbw8 := below_trans hb7 hb8
            have HXM := Lib.hid (HX5.out.below hbw8)
            have HYM := Lib.hid (HY5.out.below hbw8)
            have hqi : (q : Int) < (O.length : Int) := by omega
            have hqi0 : (0 : Int) ≤ (q : Int) := by omega
            clear hy hdr hst hya HE HN
            go_upto_region 11 with fail
            have hwm' : wm = wr.alloc (.cells #[.string (bs yv.m.id), .int .i64 yv.m.mn, .int .i64 yv.m.mx, .int .i64 yv.m.lv, .int .i64 yv.m.sr, .int .i64 yv.m.sm, .slice yv.fa yv.m.fs.length yv.fc, .slice yv.sa yv.m.ss.length yv.sc] 67) := hwm
            rw [← hwm']
            obtain ⟨V, hVe⟩ : ∃ V, V = wr.heap.size := ⟨_, rfl⟩
            rw [← hVe] at HM ⊢
            have HOV : Hid ((Value.slice NA N.length nc).ownBlock ≠ some V) := Lib.hid (fun e => by have := HOW.out V e; omega)
            clear HOW hwm hwm' hVe hb8 d0 d1 d2 d3 d4 d5 d6 d7 hb7
            obtain ⟨m0, m1, m2, m3, m4, m5, m6, m7⟩ := HM.out.c8
            obtain ⟨y0, y1, y2, y3, y4, y5, y6, y7, y8⟩ := HYM.out.c9
            obtain ⟨c, hc⟩ : ∃ c : Bool, c = (!d && lt2 x.m yv.m) := ⟨_, rfl⟩
            have HC := Lib.hid hc
            clear hc
            go_cut [6, 7, 32, 61] from 32 to 71 (fun nx dn j s wx => nx = .slice NA N.length nc ∧ dn = .bool d ∧ j = .int .i64 q ∧ s = .bool c ∧ wm = wx)
            case first =>
              cases d
              · by_cases h1 : x.m.mn < yv.m.mn
                · have hcv : c = true := by rw [HC.out, lt2_iff.2 (.inl h1)]; rfl
                  subst hcv
                  go_wp2_with fail
                  go_meet
                  case rel => exact ⟨rfl, rfl, rfl, rfl, rfl⟩
                · by_cases h2 : x.m.mn = yv.m.mn
                  · have h2b : (x.m.mn == yv.m.mn) = true := by rw [beq_iff_eq]; exact h2
                    by_cases h3 : x.m.id < yv.m.id
                    · have hcv : c = true := by rw [HC.out, lt2_iff.2 (.inr ⟨h2, h3⟩)]; rfl
                      have h4 : Op.bytesLess x.m.id yv.m.id = true := by rw [Lab.less_eq]; exact decide_eq_true h3
                      subst hcv
                      clear h2
                      go_wp2_with fail
                      go_meet
                      case rel => exact ⟨rfl, rfl, rfl, rfl, rfl⟩
                    · have hcv : c = false := by
                        rw [HC.out, Bool.not_false, Bool.true_and, ← Bool.not_eq_true, lt2_iff]
                        rintro (h | h)
                        · exact h1 h
                        · exact h3 h.2
                      have h4 : Op.bytesLess x.m.id yv.m.id = false := by rw [Lab.less_eq]; exact decide_eq_false h3
                      subst hcv
                      clear h2
                      go_wp2_with fail
                      go_meet
                      case rel => exact ⟨rfl, rfl, rfl, rfl, rfl⟩
                  · have hcv : c = false := by
                      rw [HC.out, Bool.not_false, Bool.true_and, ← Bool.not_eq_true, lt2_iff]
                      rintro (h | h)
                      · exact h1 h
                      · exact h2 h.1
                    have h2b : (x.m.mn == yv.m.mn) = false := by rw [beq_eq_false_iff_ne]; exact h2
                    subst hcv
                    go_wp2_with fail
                    go_meet
                    case rel => exact ⟨rfl, rfl, rfl, rfl, rfl⟩
              · have hcv : c = false := HC.out
                subst hcv
                go_wp2_with fail
                go_meet
                case rel => exact ⟨rfl, rfl, rfl, rfl, rfl⟩
            case rest =>
              obtain ⟨rfl, rfl, rfl, rfl, rfl⟩ := hcut
              obtain ⟨xs, hxs, hnb, hma⟩ := HN8.out
              have hxl := map_len hxs
              have HXS := Lib.hid hxs
              have HMX := Lib.hid hma
              rw [← hxl] at hnc hNl HOV hnb ⊢
              clear hxs hma HN8
              rcases c with _ | _
              · have hst := HST.out
                rw [← HC.out, if_neg Bool.false_ne_true] at hst
                have hdd : (d || lt2 x.m yv.m) = d := by
                  have := HC.out
                  cases d
                  · rw [Bool.not_false, Bool.true_and] at this; rw [Bool.false_or]; exact this.symm
                  · rfl
                rw [hdd] at hst
                have HS2 := Lib.hid hst
                clear hst hdd HST HC
                go_wp2_with (at_builtin; refine wpList_append_nlit rfl (.tmp 67) (.tmp 69) 36 rfl rmeta_ty rfl hnb rfl (by simp) rfl (by simp [Value.oneCell']) (by simp only [maxLen]; omega) (by omega) ?_; intro v3 w3 hn3 ha3; have HAP := Lib.hid ha3; clear ha3)
                have HD3 := Lib.hid (NMs.snoc HXS.out HMX.out rfl HYA.out hn3)
                have HW3 := Lib.hid (hn3.lt (by simp))
                clear hn3
                go_roundw
                case rel => exact ⟨q + 1, d, N ++ [yv.m], by go_num, by omega, rfl, by rw [List.length_append]; show N.length + 1 ≤ _; omega, HD3, HW3, HS2⟩
                case measure => simp [intOf]; omega
              · have hd0 : d = false := by
                  have := HC.out
                  cases d
                  · rfl
                  · cases this
                subst hd0
                have hlt : lt2 x.m yv.m = true := by have := HC.out; rw [Bool.not_false, Bool.true_and] at this; exact this.symm
                have hst := HST.out
                rw [hlt] at hst
                have hst : ins x.m O = (N ++ [x.m]) ++ [yv.m] ++ O.drop (q + 1) := hst
                have HS2 := Lib.hid hst
                clear hst hlt HST HC
                go_upto_region 13 with (at_builtin; refine wpList_append_nlit rfl (.tmp 62) (.tmp 65) 36 rfl rmeta_ty rfl hnb rfl (by simp) rfl (by simp [Value.oneCell']) (by simp only [maxLen]; omega) (by omega) ?_; intro v3 w3 hn3 ha3; have HAP := Lib.hid ha3; clear ha3)
                have HD3 := Lib.hid (NMs.snoc HXS.out HMX.out rfl HMA.out hn3)
                have HM3 := Lib.hid (blk_ap_ne (HM.out.alloc (.cells #[.string (bs x.m.id), .int .i64 x.m.mn, .int .i64 x.m.mx, .int .i64 x.m.lv, .int .i64 x.m.sr, .int .i64 x.m.sm, .slice x.fa x.m.fs.length x.fc, .slice x.sa x.m.ss.length x.sc] 67)) HAP.out HOV.out)
                have hxl3 : (xs ++ [x]).length = xs.length + 1 := by simp
                obtain ⟨A3, c3, rfl, hc3⟩ := hn3.buf.shape
                clear hn3 HAP HOV hnb m0 m1 m2 m3 m4 m5 m6 m7 y0 y1 y2 y3 y4 y5 y6 y7 y8
                obtain ⟨xs3, hxs3, hnb, hma3⟩ := HD3.out
                have hx3 := map_len hxs3
                rw [List.length_append, ← hxl] at hx3
                have hx3 : xs3.length = xs.length + 1 := hx3
                have HX3 := Lib.hid hxs3
                have HA3 := Lib.hid hma3
                rw [hx3] at hnb
                obtain ⟨m0, m1, m2, m3, m4, m5, m6, m7⟩ := HM3.out.c8
                clear hxs3 hma3 hxl3
                go_wp2_with (at_builtin; refine wpList_append_nlit rfl (.tmp 67) (.tmp 69) 36 rfl rmeta_ty rfl hnb rfl (by simp) rfl (by simp [Value.oneCell']) (by simp only [maxLen]; omega) (by omega) ?_; intro v4 w4 hn4 ha4; clear ha4)
                rw [← hx3] at hn4
                have HD4 := Lib.hid (NMs.snoc HX3.out HA3.out rfl HYA.out hn4)
                have HW4 := Lib.hid (hn4.lt (by simp))
                clear hn4
                go_roundw
                case rel => exact ⟨q + 1, true, (N ++ [x.m]) ++ [yv.m], by go_num, by omega, rfl, by rw [List.length_append, List.length_append]; show N.length + 1 + 1 ≤ q + 1 + 1; simp at hNl; omega, HD4, HW4, HS2⟩
                case measure => simp [intOf]; omega
          · obtain rfl : q = O.length := by omega
            have he := HE.out
            rw [List.drop_length] at he
            obtain ⟨y0, y1, y2, y3, y4, y5, y6, y7, y8⟩ := (HY5.out.below hb7).c9
            have HXZ := Lib.hid (HX5.out.below hb7)
            cases d
            · have he : ins x.m O = N ++ [x.m] := he
              have HE2 := Lib.hid (HNX.out.trans he)
              obtain ⟨xs, hxs, hnb, hma⟩ := HN.out
              have hxl := map_len hxs
              have HXS := Lib.hid hxs
              have HMX := Lib.hid hma
              rw [← hxl] at hnc hNl hnb ⊢
              clear hxs hma he HE HN HOW
              go_wp2_with (at_builtin; refine wpList_append_nlit rfl (.tmp 74) (.tmp 77) 36 rfl rmeta_ty rfl hnb rfl (by simp) rfl (by simp [Value.oneCell']) (by simp only [maxLen]; omega) (by omega) ?_; intro v3 w3 hn3 ha3; have HAP := Lib.hid ha3; clear ha3)
              have HD3 := Lib.hid ((NMs.snoc HXS.out HMX.out rfl HMA.out hn3).after HN5.out.below_)
              have HXF := Lib.hid ((HXZ.out.alloc (.cells #[.string (bs x.m.id), .int .i64 x.m.mn, .int .i64 x.m.mx, .int .i64 x.m.lv, .int .i64 x.m.sr, .int .i64 x.m.sm, .slice x.fa x.m.fs.length x.fc, .slice x.sa x.m.ss.length x.sc] 67)).ap (hnb.alloc _).buf HAP.out (by decide))
              clear hn3
              go_roundw
              case rel => exact ⟨k + 1, by go_num, by omega, HXF, Lib.hid (by rw [HE2.out]; exact HD3.out)⟩
              case measure => simp [intOf]; omega
            · have he : ins x.m O = N := by rw [he]; exact List.append_nil _
              have HE2 := Lib.hid (HNX.out.trans he)
              have HD3 := Lib.hid (HN.out.after HN5.out.below_)
              clear he HE HN HOW
              go_wp2_with fail
              go_roundw
              case rel => exact ⟨k + 1, by go_num, by omega, HXZ, Lib.hid (by rw [HE2.out]; exact HD3.out)⟩
              case measure => simp [intOf]; omega
    · obtain rfl : k = ts.length := by omega
      have hz : O = R := by
        rw [hO, HR.out, List.take_of_length_le (by unfold mtsB; rw [List.length_map]; exact Nat.le_refl _)]
      subst hz
      go_wp2_with fail
      go_ret
      exact ⟨_, rfl, HNO.out⟩
end Go.Proofs.Ytemmgejaoegpfaa
