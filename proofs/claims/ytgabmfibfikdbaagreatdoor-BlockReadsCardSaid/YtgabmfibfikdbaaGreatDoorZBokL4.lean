/-
  Any bytes are entries, chunks, or refused, as the document says (block.Entries, block.Chunks, block.Index). No condition.
-/
import Derived.Test.YtgabmfibfikdbaaGreatDoorZBokJ
import Derived.Test.YtgabmfibfikdbaaGreatDoorZFrmR
import Derived.Test.YtgabmfibfikdbaaGreatDoorZBokV
import Derived.Test.YtgabmfibfikdbaaGreatDoorZLebA
import Derived.Test.YtgabmfibfikdbaaGreatDoorTie
import Derived.Test.YtgabmfibfikdbaaGreatDoorCards

namespace Go.Proofs.YtgabmfibfikdbaaGreatDoor
open Go.RowKit Go.Bar Go.Bar.Leb Go.Bar.Frm Go.Bar.Lab Go.Bar.Xor Go.Bar.Mrg Go.Bar.Met Go.Bar.Bok Go.ChangeShapes Go.WideShapes Go.ChangeAt
open Go.ChangeMaps (open_string shut_string)

def A4Arg (_ : World) (v : Value) (x : Int × Int × Int × Int) : Prop := v = .agg #[.int .i64 x.1, .int .i64 x.2.1, .int .i64 x.2.2.1, .int .i64 x.2.2.2]
set_option maxRecDepth 10000 in
theorem open_a4 {H : Type} {enc : TypeId × Value → H} {W : World} {base b0 : Nat} {spare : Nat → Bool} {held : Bool} {r : Reach} {v : Value} {d : DataW H} {p : List MemPlace} (hval : Value.okWide Tryz.prog W r b0 23 v)
    (h : DataW.Trod enc Tryz.prog W base spare held 23 v d p) : ∃ x, A4Arg W v x := by
  simp only [Value.okWide, Tryz.underlying23] at hval
  obtain ⟨cs, rfl, hsz, _⟩ := hval
  have hC : Tryz.prog.cellsOf 23 = 4 := by kernel_rfl
  have h3 : Tryz.prog.cellsOf 3 = 1 := by kernel_rfl
  rw [hC] at hsz
  obtain ⟨fuel, hf⟩ := h
  obtain ⟨ys, k, _, _, _, hyl, hg⟩ := DataW.trod_array Tryz.underlying23 hf
  obtain ⟨l⟩ := cs
  match l, hsz, ys, hyl with
  | [c0, c1, c2, c3], _, [y0, y1, y2, y3], _ =>
    have g0 : DataW.trod enc Tryz.prog W base spare held k 3 (([c0, c1, c2, c3].drop (0 * Tryz.prog.cellsOf 3)).take (Tryz.prog.cellsOf 3)) = some y0 := hg 0 (by decide)
    have g1 : DataW.trod enc Tryz.prog W base spare held k 3 (([c0, c1, c2, c3].drop (1 * Tryz.prog.cellsOf 3)).take (Tryz.prog.cellsOf 3)) = some y1 := hg 1 (by decide)
    have g2 : DataW.trod enc Tryz.prog W base spare held k 3 (([c0, c1, c2, c3].drop (2 * Tryz.prog.cellsOf 3)).take (Tryz.prog.cellsOf 3)) = some y2 := hg 2 (by decide)
    have g3 : DataW.trod enc Tryz.prog W base spare held k 3 (([c0, c1, c2, c3].drop (3 * Tryz.prog.cellsOf 3)).take (Tryz.prog.cellsOf 3)) = some y3 := hg 3 (by decide)
    rw [h3] at g0 g1 g2 g3
    obtain ⟨n0, e0, _, _⟩ := DataW.trod_int Tryz.underlying3 g0
    obtain ⟨n1, e1, _, _⟩ := DataW.trod_int Tryz.underlying3 g1
    obtain ⟨n2, e2, _, _⟩ := DataW.trod_int Tryz.underlying3 g2
    obtain ⟨n3, e3, _, _⟩ := DataW.trod_int Tryz.underlying3 g3
    replace e0 : c0 = _ := (List.cons.inj e0).1
    replace e1 : c1 = _ := (List.cons.inj e1).1
    replace e2 : c2 = _ := (List.cons.inj e2).1
    replace e3 : c3 = _ := (List.cons.inj e3).1
    subst e0; subst e1; subst e2; subst e3
    exact ⟨(n0, n1, n2, n3), rfl⟩

theorem pairs_len : ∀ l : List Pr, (∀ p ∈ l, p.1.length ≤ 42 ∧ p.2.length ≤ 42) → (l.flatMap fun p => tx p.1 ++ tx p.2).length ≤ 110 * l.length
  | [], _ => Nat.le_refl _
  | p :: r, h => by
    have ih := pairs_len r (fun q hq => h q (List.mem_cons_of_mem _ hq))
    have hp := h p (List.mem_cons_self ..)
    have v1 := u_len p.1.length (by omega)
    have v2 := u_len p.2.length (by omega)
    have e : (tx p.1 ++ tx p.2).length ≤ 110 := by
      unfold tx
      rw [List.length_append, List.length_append, List.length_append]
      omega
    rw [List.flatMap_cons, List.length_append, List.length_cons]
    omega
theorem idx_one (F : List Pr) {A : Option Addr} {c : Nat} (a b d e : Int) (hl : F.length ≤ 10) (hs : ∀ p ∈ F, p.1.length ≤ 42 ∧ p.2.length ≤ 42) : (idxD ([(⟨F, A, c, a, b, d, e⟩ : Ev)].map plE)).length ≤ 1000000000 := by
  have u1 := u_len (w64 a) (w64_lt _)
  have u2 := u_len (w64 b) (w64_lt _)
  have u3 := u_len (w64 d) (w64_lt _)
  have u4 := u_len (w64 e) (w64_lt _)
  have u5 := u_len F.length (by omega)
  have u6 := u_len 1 (by omega)
  have hp := pairs_len F hs
  show (u 1 ++ (enB ⟨F, a, b, d, e⟩ ++ [])).length ≤ _
  unfold enB enT key
  simp only [List.length_append, List.length_nil]
  omega

set_option maxHeartbeats 16000000 in
set_option maxRecDepth 10000 in
theorem blockReads_walk0 (s0 : ByteArray) (hs0 : s0.size ≤ maxLen) (v1 : Value) (l1 : List Pr) (v2 : Value) (z : Int × Int × Int × Int) (W : World) (h1 : PsArg W v1 l1) (h2 : A4Arg W v2 z) (hW : WidthsAt W) :
    Calls Tryz.prog 3 #[.string s0, v1, v2] W (RetBelow W (.bool true)) := by
  obtain ⟨z0, z1, z2, z3⟩ := z
  unfold A4Arg at h2
  subst h2
  have c0 := fun w => cut_any s0 400 w (by omega) (by omega) hs0
  obtain ⟨S, hS⟩ : ∃ S, S = s0.data.toList.take (400 : Int).toNat := ⟨_, rfl⟩
  rw [← hS] at c0
  have hSl : S.length ≤ 400 := by rw [hS, List.length_take]; exact Nat.min_le_left _ _
  have ke := fun w => kentries_any S w (by omega)
  have re := fun w => rentries_any S w (by omega)
  have kc := fun w hw => kchunks_any S w hw (by omega)
  have rs := fun w => rsmps_any S w (by omega)
  have hok := entriesR_ok S
  have hsl := smpsR_len S
  obtain ⟨⟨E, ee⟩, hE⟩ : ∃ R, entriesR S = R := ⟨_, rfl⟩
  obtain ⟨⟨D, de⟩, hD⟩ : ∃ R, smpsR S = R := ⟨_, rfl⟩
  rw [hE] at ke re hok
  rw [hD] at kc rs hsl
  unfold RetEs at ke re
  unfold RetSmE at kc rs
  dsimp only at ke re kc rs hsl hok
  have hDl : D.length ≤ 10000 := by omega
  have C0 := Lib.hid c0
  have KE := Lib.hid ke
  have RE := Lib.hid re
  have KC := Lib.hid kc
  have RS := Lib.hid rs
  have hfw := few_any v1 l1
  obtain ⟨F, hF⟩ : ∃ F, F = few l1 := ⟨_, rfl⟩
  have hFl : F.length ≤ 10 := by rw [hF]; exact few_len l1
  have hFs : ∀ p ∈ F, p.1.length ≤ 42 ∧ p.2.length ≤ 42 := by rw [hF]; exact few_sm l1
  rw [← hF] at hfw
  have FW := Lib.hid (fun w (hb : Below W.heap.size W w) => hfw w (h1.1.below hb) h1.2)
  have HFS := Lib.hid hFs
  have AW := Lib.hid (fun w (hb : Below W.heap.size W w) => awake16_any w (hW.below hb))
  have HW := Lib.hid hW
  obtain ⟨vA, vc, rfl, hvc, hvm⟩ := h1.1.shape
  have X0 := Blk.new W #[.int .i64 z0, .int .i64 z1, .int .i64 z2, .int .i64 z3] 23
  have b0 := below_al W (.cells #[.int .i64 z0, .int .i64 z1, .int .i64 z2, .int .i64 z3] 23)
  clear c0 ke re kc rs hok hsl hE hD hS hfw hF hFs h1 hW hSl
  go_enter Tryz.func3, Tryz.ntmps3
  go_upto_region 1 with fail
  obtain ⟨X, hX⟩ : ∃ X, X = W.heap.size := ⟨_, rfl⟩
  obtain ⟨w0, hw0⟩ : ∃ w0, w0 = W.alloc (.cells #[.int .i64 z0, .int .i64 z1, .int .i64 z2, .int .i64 z3] 23) := ⟨_, rfl⟩
  have hXw : W.heap.size ≤ X := by omega
  rw [← hX, ← hw0] at X0
  rw [← hw0] at b0
  rw [← hX, ← hw0]
  have HX0 := Lib.hid X0
  have B0 := Lib.hid b0
  clear X0 b0 hX hw0
  go_wp2_with fail
  refine (C0.out _).mono ?_
  rintro e w' ⟨rfl, rfl⟩
  go_wp2_with fail
  refine (KE.out _).mono ?_
  rintro e w1 ⟨va, la, rfl, da, ma⟩
  have EA1 := Lib.hid (da.at_ da.n.below)
  obtain ⟨aA, ac, rfl, _⟩ := EA1.out.shape
  have HX1 := Lib.hid (HX0.out.below da.n.below)
  have B1 := Lib.hid (below_trans B0.out da.n.below)
  have MA := Lib.hid ma
  clear da ma KE HX0 B0
  go_wp2_with fail
  refine (RE.out _).mono ?_
  rintro e w2 ⟨vb, lb, rfl, db, mb⟩
  have EB2 := Lib.hid (db.at_ db.n.below)
  obtain ⟨bA, bc, rfl, _⟩ := EB2.out.shape
  have EA2 := Lib.hid (EA1.out.below db.n.below)
  have HX2 := Lib.hid (HX1.out.below db.n.below)
  have B2 := Lib.hid (below_trans B1.out db.n.below)
  have MB := Lib.hid (MA.out.trans mb.symm)
  clear db mb RE HX1 B1 EA1
  go_wp2_with fail
  refine (KC.out _ (HW.out.below B2.out)).mono ?_
  rintro e w3 ⟨vc1, rfl, n3⟩
  obtain ⟨cA, cc, rfl, hcc⟩ := n3.buf.shape
  have SC3 : Hid (SmsAt w3 (.slice cA D.length cc) D) := Lib.hid n3.slice
  have EA3 := Lib.hid (EA2.out.below n3.below)
  have EB3 := Lib.hid (EB2.out.below n3.below)
  have HX3 := Lib.hid (HX2.out.below n3.below)
  have B3 := Lib.hid (below_trans B2.out n3.below)
  clear n3 KC HX2 B2 EA2 EB2
  go_wp2_with fail
  refine (RS.out _).mono ?_
  rintro e w4 ⟨vd1, rfl, n4⟩
  obtain ⟨dA, dc, rfl, hdc⟩ := n4.buf.shape
  have SD4 : Hid (SmsAt w4 (.slice dA D.length dc) D) := Lib.hid n4.slice
  have SC4 := Lib.hid (SmsAt.below SC3.out n4.below)
  have EA4 := Lib.hid (EA3.out.below n4.below)
  have EB4 := Lib.hid (EB3.out.below n4.below)
  have HX4 := Lib.hid (HX3.out.below n4.below)
  have B4 := Lib.hid (below_trans B3.out n4.below)
  clear n4 RS HX3 B3 EA3 EB3 SC3
  go_wp2_with fail
  refine (AW.out _ B4.out).mono ?_
  rintro e w5 ⟨rfl, b5⟩
  have SM := Lib.hid (same16_any _ _ la lb w5 (EA4.out.below b5) (EB4.out.below b5) MB.out)
  have SD5 := Lib.hid (SmsAt.below SD4.out b5)
  have SC5 := Lib.hid (SmsAt.below SC4.out b5)
  have HX5 := Lib.hid (HX4.out.below b5)
  have B5 := Lib.hid (below_trans B4.out b5)
  have hee : ((ee : Int) != (ee : Int)) = false := by simp
  clear b5 AW HX4 B4 EA4 EB4 SD4 SC4
  go_wp2_with fail
  refine SM.out.mono ?_
  rintro e w6 ⟨rfl, b6⟩
  have SD6 := Lib.hid (SmsAt.below SD5.out b6)
  have SC6 := Lib.hid (SmsAt.below SC5.out b6)
  have HX6 := Lib.hid (HX5.out.below b6)
  have B6 := Lib.hid (below_trans B5.out b6)
  have hde : ((de : Int) != (de : Int)) = false := by simp
  obtain ⟨N, hN⟩ : ∃ N, N = D.length := ⟨_, rfl⟩
  rw [← hN] at SD6 SC6 hcc hdc hDl ⊢
  have HN := Lib.hid hN
  have hnn : ((N : Int) != (N : Int)) = false := by simp
  clear b6 SM HX5 B5 SD5 SC5 hee hN
  go_upto_region 9 with fail
  clear hde hnn
  go_loopw [67] (fun i wr => ∃ m : Nat, m ≤ N ∧ i = .int .i64 (m : Int) ∧ Hid (∃ q, wr = w6.drewN q)) (fun i _ => N - (intOf i).toNat)
  case atStart => exact ⟨0, Nat.zero_le _, rfl, Lib.hid ⟨0, rfl⟩⟩
  case round =>
    obtain ⟨m, hm, rfl, hq⟩ := hrel
    obtain ⟨q, rfl⟩ := hq.out
    by_cases hgm : m < N
    · obtain ⟨x, hx⟩ : ∃ x, D[m]? = some x := ⟨_, List.getElem?_eq_getElem (by rw [← HN.out]; exact hgm)⟩
      obtain ⟨b1, o1, rfl, hb1, x0, x1⟩ := SC6.out.at_ hx
      obtain ⟨b2, o2, rfl, hb2, y0, y1⟩ := SD6.out.at_ hx
      clear hx
      go_wp2_with fail
      go_quiet (fail)
      go_wp2_with fail
      go_roundw
      case rel => exact ⟨m + 1, by omega, by go_num, Lib.hid ⟨_, rfl⟩⟩
      case measure => simp [intOf]; try omega
    · obtain rfl : m = N := by omega
      have HX7 := Lib.hid (HX6.out.below (below_drewN (Below.refl _ _) q))
      have B7 := Lib.hid (below_drewN B6.out q)
      obtain ⟨w7, hw7⟩ : ∃ w7, w7 = w6.drewN q := ⟨_, rfl⟩
      rw [← hw7] at HX7 B7 ⊢
      clear hw7 hq HX6 B6 SD6 SC6 hgm
      go_upto_region 15 with fail
      go_loopw [80] (fun i wr => ∃ m : Nat, m ≤ 4 ∧ i = .int .i64 (m : Int) ∧ Hid (∃ c0 c1 c2 c3 : Int, Blk wr X 23 #[.int .i64 c0, .int .i64 c1, .int .i64 c2, .int .i64 c3]) ∧ Hid (Below W.heap.size W wr)) (fun i _ => 4 - (intOf i).toNat)
      case atStart => exact ⟨0, by omega, rfl, Lib.hid ⟨_, _, _, _, HX7.out⟩, B7⟩
      case round =>
        obtain ⟨m, hm4, rfl, HBK, HBB⟩ := hrel
        obtain ⟨c0, c1, c2, c3, hbk⟩ := HBK.out
        have HXR := Lib.hid hbk
        clear hbk HX7 B7 HBK
        have k0 := HXR.out.cell (i := 0) rfl
        have k1 := HXR.out.cell (i := 1) rfl
        have k2 := HXR.out.cell (i := 2) rfl
        have k3 := HXR.out.cell (i := 3) rfl
        by_cases hgm : m < 4
        · have f0 := HXR.out.free 0
          have f1 := HXR.out.free 1
          have f2 := HXR.out.free 2
          have f3 := HXR.out.free 3
          rcases (show m = 0 ∨ m = 1 ∨ m = 2 ∨ m = 3 by omega) with rfl | rfl | rfl | rfl
          · go_wp2_with fail
            go_roundw
            case rel => exact ⟨1, by omega, rfl, Lib.hid ⟨min (max c0 0) 1073741824, c1, c2, c3, by simpa using HXR.out.set 0 (.int .i64 (min (max c0 0) 1073741824))⟩, Lib.hid (Below.setCell HBB.out hXw (.int .i64 (min (max c0 0) 1073741824)) (p := ⟨X, 0, none⟩))⟩
            case measure => simp [intOf]
          · go_wp2_with fail
            go_roundw
            case rel => exact ⟨2, by omega, rfl, Lib.hid ⟨c0, min (max c1 0) 1073741824, c2, c3, by simpa using HXR.out.set 1 (.int .i64 (min (max c1 0) 1073741824))⟩, Lib.hid (Below.setCell HBB.out hXw (.int .i64 (min (max c1 0) 1073741824)) (p := ⟨X, 1, none⟩))⟩
            case measure => simp [intOf]
          · go_wp2_with fail
            go_roundw
            case rel => exact ⟨3, by omega, rfl, Lib.hid ⟨c0, c1, min (max c2 0) 1073741824, c3, by simpa using HXR.out.set 2 (.int .i64 (min (max c2 0) 1073741824))⟩, Lib.hid (Below.setCell HBB.out hXw (.int .i64 (min (max c2 0) 1073741824)) (p := ⟨X, 2, none⟩))⟩
            case measure => simp [intOf]
          · go_wp2_with fail
            go_roundw
            case rel => exact ⟨4, by omega, rfl, Lib.hid ⟨c0, c1, c2, min (max c3 0) 1073741824, by simpa using HXR.out.set 3 (.int .i64 (min (max c3 0) 1073741824))⟩, Lib.hid (Below.setCell HBB.out hXw (.int .i64 (min (max c3 0) 1073741824)) (p := ⟨X, 3, none⟩))⟩
            case measure => simp [intOf]
        · obtain rfl : m = 4 := by omega
          have hfw := FW.out wr HBB.out
          have HFW := Lib.hid (fun w' (hb : Below wr.heap.size wr w') => FW.out w' (below_trans HBB.out hb))
          clear k0 k1 k2 k3 hfw hgm
          go_upto_region 19 with fail
          obtain ⟨wb, hwb⟩ : ∃ wb, wb = wr := ⟨_, rfl⟩
          rw [← hwb] at HFW HXR HBB ⊢
          clear hwb
          refine wp_region_facts [(1, ((fun v => ∃ A c, v = .slice A F.length c), (fun v w' => FBuf wb w' 128 2 v F.length (pcs F)))), (3, (isV (.int .i64 c0), noFact)), (5, (isV (.int .i64 c1), noFact)), (7, (isV (.int .i64 c2), noFact)), (9, (isV (.int .i64 c3), noFact)), (11, ((fun v => ∃ g, v = .slice (some ⟨g, 0, none⟩) 1 1), (fun v w' => ∃ A c, FBuf wb w' 45 5 v 1 (encE ⟨F, A, c, c0, c1, c2, c3⟩) ∧ FBuf wb w' 128 2 (.slice A F.length c) F.length (pcs F))))] (by kernel_rfl) 109 (by kernel_rfl) rfl ?_ ?_ ?_
          · apply lookup_ne
            simp only [List.forall_mem_cons, List.not_mem_nil, false_imp_iff, implies_true, and_true]
            exact ⟨⟨_, none, 0, rfl⟩, ⟨_, rfl⟩, ⟨_, rfl⟩, ⟨_, rfl⟩, ⟨_, rfl⟩, ⟨_, 0, rfl⟩⟩
          · apply lookup_st
            simp only [List.forall_mem_cons, List.not_mem_nil, false_imp_iff, implies_true, and_true]
            refine ⟨?_, ?_, ?_, ?_, ?_, ?_⟩
            · exact fun _ _ _ hb h => h.below hb
            · exact fun _ _ _ _ _ => trivial
            · exact fun _ _ _ _ _ => trivial
            · exact fun _ _ _ _ _ => trivial
            · exact fun _ _ _ _ _ => trivial
            · exact fun _ _ _ hb ⟨A, c, h1, h2⟩ => ⟨A, c, h1.below hb, h2.below hb⟩
          repeat (first
            | (refine Chain.step (v := ?_) (a' := ?_) rfl rfl rfl ?_ ?_ ?_; rotate_left 2; (focus (intro w; go_simp; try with_reducible rfl)); focus (simp only [Act.put, pqA, pqS, pqZ]; try rfl))
            | (refine Chain.make (i := 1) _ _ rfl rfl rfl (fun wx hw hF => ?_) (fun v1 hv1 a' ha => ?_); (focus (go_simp); (with_reducible refine (HFW.out _ hw).mono ?_); (rintro e w' ⟨v, rfl, hnb⟩); (obtain ⟨A, c, rfl, _⟩ := hnb.buf.shape); (exact ⟨hnb.below, ⟨A, c, rfl⟩, hnb.buf, fun k hk => Nat.le_trans hw.size (hnb.new k hk)⟩)); obtain ⟨A3, c3', rfl⟩ := hv1; simp only [Act.put, pqA, pqS, pqZ] at ha; subst ha)
            | (refine Chain.call' (i := 3) (a' := ?_) _ rfl rfl rfl rfl (fun wx hw hF => ?_) ?_ ?_; rotate_left 1; (focus (have g0 := (HXR.out.below hw).cell (i := 0) rfl); (go_simp); (first | exact ⟨rfl, rB⟩ | exact rB)); focus (simp only [Act.put, pqA, pqS, pqZ]; try rfl))
            | (refine Chain.call' (i := 5) (a' := ?_) _ rfl rfl rfl rfl (fun wx hw hF => ?_) ?_ ?_; rotate_left 1; (focus (have g0 := (HXR.out.below hw).cell (i := 1) rfl); (go_simp); (first | exact ⟨rfl, rB⟩ | exact rB)); focus (simp only [Act.put, pqA, pqS, pqZ]; try rfl))
            | (refine Chain.call' (i := 7) (a' := ?_) _ rfl rfl rfl rfl (fun wx hw hF => ?_) ?_ ?_; rotate_left 1; (focus (have g0 := (HXR.out.below hw).cell (i := 2) rfl); (go_simp); (first | exact ⟨rfl, rB⟩ | exact rB)); focus (simp only [Act.put, pqA, pqS, pqZ]; try rfl))
            | (refine Chain.call' (i := 9) (a' := ?_) _ rfl rfl rfl rfl (fun wx hw hF => ?_) ?_ ?_; rotate_left 1; (focus (have g0 := (HXR.out.below hw).cell (i := 3) rfl); (go_simp); (first | exact ⟨rfl, rB⟩ | exact rB)); focus (simp only [Act.put, pqA, pqS, pqZ]; try rfl))
            | (refine Chain.make (i := 11) _ _ rfl rfl rfl (fun wx hw hF => ?_) (fun v11 hv11 a' ha => ?_); (focus (have f3 := hF 1 (by kernel_rfl)); (go_simp); (refine ⟨ba1 _ _, A3, c3', ⟨?_, fun k hk => by simp [Value.ownBlock] at hk; subst hk; exact hw.size⟩, f3.below (ba1 _ _)⟩); (exact Buf.lit wx 45 5 1 [.slice A3 F.length c3', .int .i64 c0, .int .i64 c1, .int .i64 c2, .int .i64 c3] rfl (by decide))); obtain ⟨g7, rfl⟩ := hv11; simp only [Act.put, pqA, pqS, pqZ] at ha; subst ha)
            | (refine Chain.skip (a' := ?_) rfl rfl rfl ?_ ?_; rotate_left 1; focus (simp only [Act.put, pqA, pqS, pqZ]; try rfl)))
          refine Chain.end_ (fun wy hwy hfy => ?_)
          obtain ⟨A4, c4, h4, h5⟩ : ∃ A c, FBuf wb wy 45 5 (.slice (some ⟨g7, 0, none⟩) 1 1) 1 (encE ⟨F, A, c, c0, c1, c2, c3⟩) ∧ FBuf wb wy 128 2 (.slice A F.length c) F.length (pcs F) := hfy 11
          have hES : EsAt wy (.slice (some ⟨g7, 0, none⟩) 1 1) [⟨F, A4, c4, c0, c1, c2, c3⟩] := ⟨SlAt.of_buf h4.buf, fun x hx => by
            obtain rfl := List.mem_singleton.1 hx
            exact SlAt.of_buf h5.buf⟩
          have BY := Lib.hid (below_trans HBB.out hwy)
          have hpp : ∀ x ∈ [(⟨F, A4, c4, c0, c1, c2, c3⟩ : Ev)], x.ls.length ≤ 1000 ∧ ∀ p ∈ x.ls, p.1.length ≤ 1000000 ∧ p.2.length ≤ 1000000 := fun x hx => by
            obtain rfl := List.mem_singleton.1 hx
            exact ⟨by show F.length ≤ 1000; omega, fun p hp => by have := HFS.out p hp; omega⟩
          have hidl : (idxD ([(⟨F, A4, c4, c0, c1, c2, c3⟩ : Ev)].map plE)).length ≤ 1000000000 := idx_one F c0 c1 c2 c3 hFl HFS.out
          have KI := Lib.hid (kindex_any _ _ wy hES hidl hpp (by simp))
          obtain ⟨EL, hEL⟩ : ∃ EL, EL = [(⟨F, A4, c4, c0, c1, c2, c3⟩ : Ev)] := ⟨_, rfl⟩
          have hELl : EL.length = 1 := by rw [hEL]; rfl
          rw [← hEL] at hES KI hpp hidl
          have HES := Lib.hid hES
          have HPP := Lib.hid hpp
          have HID := Lib.hid hidl
          have HELL := Lib.hid hELl
          obtain ⟨IX, hIX⟩ : ∃ IX, IX = idxB (EL.map plE) := ⟨_, rfl⟩
          rw [← hIX] at KI
          have HIX := Lib.hid hIX
          clear hES hpp hidl hELl hEL hIX h4 h5 hfy hwy HFW
          go_wp2_with fail
          refine KI.out.mono ?_
          rintro e w8 ⟨rfl, b8⟩
          have EN := Lib.hid (entries16_any _ EL w8 (HES.out.below b8) (by rw [HELL.out]; omega) (fun x hx => by have := (HPP.out x hx).1; omega))
          have B8 := Lib.hid (below_trans BY.out b8)
          clear b8 KI BY
          go_wp2_with fail
          refine EN.out.mono ?_
          rintro e w9 ⟨v9, l9, rfl, d9, m9⟩
          have hl9 : l9.length = 1 := by
            have := congrArg List.length m9
            rw [List.length_map, List.length_map, HELL.out] at this
            exact this
          have XI := xindex_any v9 l9 w9 (d9.at_ d9.n.below) (by rw [m9]; exact HID.out) (fun x hx => by
            have h1 : plE x ∈ EL.map plE := by rw [← m9]; exact List.mem_map_of_mem hx
            obtain ⟨y, hy, hxy⟩ := List.mem_map.1 h1
            have h2 := HPP.out y hy
            have h3 : y.ls = x.ls := congrArg En.ls hxy
            rw [h3] at h2
            exact h2) (by omega)
          rw [m9, ← HIX.out] at XI
          have HXI := Lib.hid XI
          have B9 := Lib.hid (below_trans B8.out d9.n.below)
          clear XI EN d9 m9 hl9 B8 HIX HES HPP HID HELL
          go_wp2_with fail
          refine HXI.out.mono ?_
          rintro e w10 ⟨rfl, b10⟩
          have B10 := Lib.hid (below_trans B9.out b10)
          clear b10 HXI B9
          go_wp2_with fail
          go_ret
          exact ⟨rfl, B10.out⟩

set_option maxHeartbeats 8000000 in
set_option maxRecDepth 100000 in
theorem blockReads_lifted (os : Os) (started : os.Started) (H : Type) (enc : TypeId × Value → H) :
    ReturnsInHanded {} Tryz.checked os 3 .any (fun w args => (Rows.blockReadsSpec.pre enc Tryz.prog Tryz.f3 [] false w args ∧ laidMetH Tryz.prog [("barograph/xor.widths", Rows.laid_barograph_xor_widths), ("unicode/utf8.acceptRanges", Rows.laid_unicode_utf8_acceptRanges), ("unicode/utf8.first", Rows.laid_unicode_utf8_first)] w) ∧ sizedMet enc Tryz.prog Tryz.f3 (OpenSpec.ofChange Rows.blockReadsSpec) false w args)
      (Rows.blockReadsSpec.post enc Tryz.prog Tryz.f3 false true false false) := by
  refine returnsInHanded_of_change_and (C := Tryz.checked) (X := fun w _ => laidMetH Tryz.prog [("barograph/xor.widths", Rows.laid_barograph_xor_widths), ("unicode/utf8.acceptRanges", Rows.laid_unicode_utf8_acceptRanges), ("unicode/utf8.first", Rows.laid_unicode_utf8_first)] w) (fun _ _ _ hh h => h.of_heap hh) law_own started (by kernel_rfl) Tryz.func3
    (ChangeSpec.witness_shaped (enc := enc) (C := Tryz.checked) (os := os) (X := fun w _ => laidMetH Tryz.prog [("barograph/xor.widths", Rows.laid_barograph_xor_widths), ("unicode/utf8.acceptRanges", Rows.laid_unicode_utf8_acceptRanges), ("unicode/utf8.first", Rows.laid_unicode_utf8_first)] w) false (World.laidAll Tryz.prog os [("barograph/xor.widths", Rows.laid_barograph_xor_widths), ("unicode/utf8.acceptRanges", Rows.laid_unicode_utf8_acceptRanges), ("unicode/utf8.first", Rows.laid_unicode_utf8_first)]) #[.string ByteArray.empty, .slice none 0 0, .agg #[.int .i64 0, .int .i64 0, .int .i64 0, .int .i64 0]] 8 (World.laidAll_os _ _ _)
      (World.shaped_of_ZipB (by kernel_rfl) (by kernel_rfl)) (by kernel_rfl) (by kernel_rfl) (by kernel_rfl) (door_met os _)) ?_
  intro W base args ds gs before hval0 hW _ _ hL _
  have hval : ∀ (j : Nat) t v, Tryz.f3.params[j]? = some t → args[j]? = some v → Value.okWide Tryz.prog W .any base t v := hval0
  have hW' := hW
  obtain ⟨p, q, hA0, hV, rfl, _, _⟩ := hW
  have hA : DataW.TrodAll enc Tryz.prog W 0 (fun _ => true) true Tryz.f3.params.toList args.toList ds p := hA0
  rw [Tryz.params3] at hA hval
  obtain ⟨v0, vs0, d0, ds0, p0, q0, hargs, rfl, rfl, h0, r0⟩ := trodAll_cons hA
  obtain ⟨v1, vs1, d1, ds1, p1, q1, rfl, rfl, rfl, h1, r1⟩ := trodAll_cons r0
  obtain ⟨v2, vs2, d2, ds2, p2, q2, rfl, rfl, rfl, h2, r2⟩ := trodAll_cons r1
  obtain ⟨rfl, rfl, rfl⟩ := trodAll_nil r2
  obtain rfl : args = #[v0, v1, v2] := by cases args; simp_all
  obtain ⟨rfl, rfl⟩ := trodVars_none hV
  obtain ⟨a0, rfl, rfl, rfl, w0⟩ := open_string Tryz.underlying9 (hval 0 9 v0 rfl rfl) h0
  obtain ⟨ts1, hts1⟩ := open_pairs (hval 1 22 v1 rfl rfl) h1
  obtain ⟨ts2, hts2⟩ := open_a4 (hval 2 23 v2 rfl rfl) h2
  refine (blockReads_walk0 a0 w0 v1 ts1 v2 ts2 W hts1 hts2 (of_laid hL)).mono fun e W' ⟨he, hb⟩ => ?_
  subst he
  exact ⟨_, rfl, law_post law_laid (by intro t ht; rw [Tryz.params3] at ht; simp only [List.mem_cons, List.not_mem_nil, or_false] at ht; rcases ht with rfl | rfl | rfl <;> exact ⟨by kernel_rfl, of_decide_eq_true (by kernel_rfl)⟩) rfl Tryz.underlying4 rfl rfl hW' hb⟩

theorem blockReads_holds : Rows.BlockReadsSaid :=
  OpenClaim.holds_of_wide 3 Tryz.f3 rfl rfl rfl rfl rfl rfl rfl ⟨rfl, rfl, rfl, rfl, rfl⟩ rfl rfl rfl rfl rfl (by kernel_rfl) Tryz.func3 (by kernel_rfl)
    (of_decide_eq_true (by kernel_rfl)) (by unfold Func.isWrapper; first | (rw [if_pos (by decide +kernel)]; kernel_rfl) | (rw [if_neg (by decide +kernel)]; exact ⟨rfl, rfl⟩))
    (fun os started H enc _ => blockReads_lifted os started H enc)

theorem blockReads_card : Rows.BlockReadsCardSaid :=
  Claim7.holds_tied_plain_at .later [] [.data, .data, .pinned] true (true, "10e313c21d0b0161e13f8cfea311ebe3f966d34302896ab44c490f8946b68ccf") false
    blockReads_holds (fun _ h => by cases h) (by kernel_rfl) (fun _ h => by cases h) blockReads_row_tie rfl ⟨rfl, rfl⟩ (by kernel_rfl) rfl
    (fun f fn hf hfn => by
      obtain rfl : f = 3 := Option.some.inj ((show Tryz.prog.funcNamed "barograph/barographlaw16.BlockReads" = some 3 by kernel_rfl).symm.trans hf) |>.symm
      obtain rfl : fn = Tryz.f3 := (Option.some.inj (Tryz.func3.symm.trans hfn)).symm
      exact ⟨by kernel_rfl, fun j t ht => by
        rw [Tryz.params3] at ht
        rcases j with _ | j
        · obtain rfl : t = 9 := by simpa using ht.symm
          exact (show Tryz.prog.wantsStandIn 9 = false by kernel_rfl)
        rcases j with _ | j
        · obtain rfl : t = 22 := by simpa using ht.symm
          exact (show Tryz.prog.wantsStandIn 22 = false by kernel_rfl)
        rcases j with _ | j
        · obtain rfl : t = 23 := by simpa using ht.symm
          exact (show Tryz.prog.wantsStandIn 23 = false by kernel_rfl)
        simp at ht⟩)
    (by kernel_rfl)

end Go.Proofs.YtgabmfibfikdbaaGreatDoor
