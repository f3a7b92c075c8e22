/-
 Layer 14: the laws' own functions: Labels, Told, Rows, Table.
-/
import Derived.Test.YtgabmfibfikdbaaGreatDoorZBokId
import Derived.Test.YtgabmfibfikdbaaGreatDoorZLabF
import Derived.Test.YtgabmfibfikdbaaGreatDoorZLib24
import Derived.Test.YtgabmfibfikdbaaGreatDoorZBokP
import Derived.Test.YtgabmfibfikdbaaGreatDoorZIdtA
import Derived.Test.YtgabmfibfikdbaaGreatDoorZLabT
import Derived.Test.YtgabmfibfikdbaaGreatDoorZLib5
import Derived.Test.YtgabmfibfikdbaaGreatDoorZLib22
import Derived.Deep.CutRange

set_option maxHeartbeats 32000000
set_option maxRecDepth 10000
namespace Go.Proofs.YtgabmfibfikdbaaGreatDoor
open Go.RowKit Go.Bar Go.Bar.Leb Go.Bar.Lab Go.Bar.Xor Go.Bar.Mrg

def lab5 (n : Nat) : List Pr := match n % 5 with
 | 0 => [([97], [49])]
 | 1 => [([97], [49]), ([98], [50])]
 | 2 => [([97], [50])]
 | 3 => [([98], [49])]
 | _ => [([106, 111, 98], [120])]
def lab5t (j : Nat) : List UInt8 := match j with
 | 0 => [97, 61, 49]
 | 1 => [97, 61, 49, 44, 98, 61, 50]
 | 2 => [97, 61, 50]
 | 3 => [98, 61, 49]
 | _ => [106, 111, 98, 61, 120]
theorem lab5_parse (n : Nat) : parse (lab5t (n % 5)) = (lab5 n, 0) := by
 have h : n % 5 < 5 := Nat.mod_lt _ (by decide)
 unfold lab5
 generalize n % 5 = j at h
 rcases j with _ | _ | _ | _ | _ | j
 ·decide
 ·decide
 ·decide
 ·decide
 ·decide
 ·omega
theorem lab5_len (n : Nat) : (lab5 n).length <= 2 := by
 unfold lab5
 split <;> decide
def RetN14 (w : World) (T : TypeId) (l : List Pr) (e : Ending) (w' : World) : Prop := ∃ v, e = .returned v /\ NBuf w w' T 2 v l.length (pcs l)

theorem labels_any (n : Nat) (w : World) : Calls Tryz.prog 56 #[.int .u8 (n : Nat)] w (RetN14 w 128 (lab5 n)) := by
 have hp := fun w => parse_any6 (lab5t (n % 5)) w (by
  have h : n % 5 < 5 := Nat.mod_lt _ (by decide)
  generalize n % 5 = j at h
  rcases j with _ | _ | _ | _ | _ | j <;> simp [lab5t])
 unfold RetPs at hp
 rw [lab5_parse] at hp
 obtain ⟨L, hL⟩ : ∃ L, L = lab5 n := ⟨_, rfl⟩
 rw [<- hL] at hp ⊢
 clear hL
 have hm : (n : Int) % 5 = ((n % 5 : Nat) : Int) := by omega
 have h : n % 5 < 5 := Nat.mod_lt _ (by decide)
 generalize n % 5 = j at h hp hm
 have HP := Lib.hid hp
 clear hp
 rcases j with _ | _ | _ | _ | _ | j
 case succ.succ.succ.succ.succ => omega
 all_goals
  have hm2 : (n : Int) % 5 = _ := hm
  go_enter Tryz.func56, Tryz.ntmps56
  go_wp2_with fail
  refine (HP.out _).mono ?_
  rintro e w1 ⟨v, rfl, hn⟩
  have HN := Lib.hid hn
  clear hn
  go_wp2_with fail
  go_ret
  exact ⟨v, rfl, HN.out.after (below_alloc1 _ _)⟩

theorem told14_any (v : Value) (t : List Rv) (w : World) (h : TbAt w v t) (hl : t.length <= 1000000) (hp : ∀ x ∈ t, x.ls.length <= 1000000) :
  Calls Tryz.prog 29 #[v] w (RetDt w w w 62 146 (t.map plR)) := by
 obtain ⟨A, c, rfl, hlc, hcm⟩ := h.shape
 unfold maxLen at hcm
 have HT := Lib.hid h
 have HP := Lib.hid hp
 have HN0 : Hid (DTb w w w (w.alloc (.cells #[] 62)) 62 146 (.slice (some ⟨w.heap.size, 0, none⟩) 0 0) []) := Lib.hid ⟨NBuf.lit0 (Below.refl w.heap.size w) 62 2, Below.refl _ _, fun x hx => by cases hx⟩
 clear h hp
 go_enter Tryz.func29, Tryz.ntmps29
 go_wp2_with fail
 go_loopw [3, 9] (fun d i wr => ∃ (k : Nat) (O : List Rv), k <= t.length /\ i = .int .i64 k /\ O.length = k /\ Hid (DTb w w w wr 62 146 d O) /\ Hid (O.map plR = (t.map plR).take k)) (fun _ i _ => t.length - (intOf i).toNat)
 case atStart => exact ⟨0, [], Nat.zero_le _, rfl, rfl, HN0, Lib.hid rfl⟩
 case round =>
  obtain ⟨k, O, hk, rfl, hO, HNB, HRR⟩ := hrel
  obtain ⟨fA, fc, rfl, hfc⟩ := HNB.out.n.buf.shape
  have hbw := HNB.out.n.below
  clear HN0
  by_cases hgo : k < t.length
  ·obtain ⟨x, hx⟩ : ∃ x, t[k]? = some x := ⟨_, List.getElem?_eq_getElem hgo⟩
   obtain ⟨xb, xo, rfl, x0, x1, _⟩ := (HT.out.below hbw).at_ hx
   have hrr : O.map plR ++ [plR x] = (t.map plR).take (k + 1) := by
    rw [List.take_add_one, List.getElem?_map, hx, HRR.out]; rfl
   have HR2 := Lib.hid hrr
   have HRX := Lib.hid (HT.out.2 x (List.mem_of_getElem? hx))
   obtain ⟨n, hn⟩ : ∃ n, n = O.length := ⟨_, rfl⟩
   have HNK := Lib.hid (hn.trans hO)
   have hnb : n <= 1000000 := by have := HNK.out; omega
   have HNN := Lib.hid hn
   have hxl := HP.out x (List.mem_of_getElem? hx)
   have htl := fun w' (hb : Below w.heap.size w w') => told_any6 (.slice x.la x.ls.length x.lc) x.ls w' (HRX.out.1.below hb) hxl
   have HTL := Lib.hid htl
   clear hrr hx HRR htl hO hn
   obtain ⟨wx, hwx⟩ : ∃ wx, wx = wr.alloc (.cells #[.slice x.la x.ls.length x.lc, .slice x.sa x.ss.length x.sc] 94) := ⟨_, rfl⟩
   have hbx : Below wr.heap.size wr wx := by rw [hwx]; exact below_alloc1 _ _
   have HXB : Hid (Blk wx wr.heap.size 94 #[.slice x.la x.ls.length x.lc, .slice x.sa x.ss.length x.sc]) := Lib.hid (by rw [hwx]; exact Blk.new _ _ _)
   have HNX := Lib.hid (HNB.out.below hbx)
   have hbWx := below_trans hbw hbx
   go_upto_region 5 with fail
   rw [<- hwx]
   obtain ⟨X, hX⟩ : ∃ X, X = wr.heap.size := ⟨_, rfl⟩
   rw [<- hX] at HXB ⊢
   rw [<- HNN.out] at HNX ⊢
   clear hwx hX HNB hbx
   obtain ⟨k0, k1⟩ := HXB.out.c2
   go_region_law (first
    | (((rw [if_pos (by rfl)]); go_simp; go_at_call 54; refine (HTL.out _ hbWx.drew).mono ?_; rintro e w6 ⟨v6, rfl, n6⟩; obtain ⟨A6, c6, rfl, hc6⟩ := n6.buf.shape; have b6 : Below wx.heap.size wx w6 := below_trans (Below.refl _ _).drew n6.below; obtain ⟨q0, q1⟩ := (HXB.out.below b6).c2; dsimp only))
    | ((refine step_append_buf rfl (.tmp 13) (.tmp 20) 57 rfl rrow_ty rfl ((HNX.out.n.buf.below b6).alloc _) rfl ((Buf.lit w6 62 2 1 [.slice A6 x.ls.length c6, .slice x.sa x.ss.length x.sc] rfl (by decide)).src rrow_ty.slice (by simp [Value.oneCell'])) (by simp only [maxLen]; have := HNN.out; omega) (by have := HNN.out; omega) ?_; intro v2 w2 hb2 ha2 hg2; have HB8 := Lib.hid (And.intro hb2 (And.intro ha2 hg2)); clear hb2 ha2 hg2)))
   all_goals
    have hdx := HNX.out.below (below_trans b6 (below_alloc1 _ (.cells #[.slice A6 x.ls.length c6, .slice x.sa x.ss.length x.sc] 62)))
    have hd := DTb.snoc (x := ⟨x.ls, x.ss, A6, c6, x.sa, x.sc⟩) hdx ⟨.inr ((n6.after hbWx.drew).alloc _), .inl HRX.out.2⟩ (hdx.n.step HB8.out.1 HB8.out.2.1 HB8.out.2.2) HB8.out.2.1 (by decide) (by decide)
    have HD := Lib.hid hd
    clear hd hdx n6 b6 q0 q1 k0 k1
    go_wp2_with fail
    go_roundw
    case rel => exact ⟨k + 1, _, by omega, by go_num, by rw [List.length_append, <- HNN.out, HNK.out]; rfl, HD, Lib.hid (by rw [List.map_append, <- HR2.out]; rfl)⟩
    case measure => simp [intOf]; omega
  ·obtain rfl : k = t.length := by omega
   have hrr := HRR.out
   rw [List.take_of_length_le (by rw [List.length_map]; exact Nat.le_refl _)] at hrr
   have HR2 := Lib.hid hrr
   clear hrr HRR
   go_wp2_with fail
   go_ret
   exact ⟨_, O, rfl, HNB.out, HR2.out⟩

theorem pair_ty14 : ElemTy Tryz.prog 43 128 (.agg #[.string ByteArray.empty, .string ByteArray.empty]) 2 32 :=
 ⟨Tryz.underlying43, info_parts (show (Tryz.prog.info? 128).map (fun i => (i.zero, i.size, i.bytes)) = some (some (.agg #[.string ByteArray.empty, .string ByteArray.empty]), 2, 32) by kernel_rfl), rfl⟩

theorem rows14_any (B : World) (v : Value) (t : List Rv) (w : World) (h : TbAt w v t) (hl : t.length <= 1000000) (hp : ∀ x ∈ t, x.ls.length <= 1000000 /\ x.ss.length <= 1000000) :
  Calls Tryz.prog 23 #[v] w (RetDt B w w 94 128 (t.map plR)) := by
 obtain ⟨A, c, rfl, hlc, hcm⟩ := h.shape
 unfold maxLen at hcm
 have HT := Lib.hid h
 have HP := Lib.hid hp
 have HN0 : Hid (DTb B w w (w.alloc (.cells #[] 94)) 94 128 (.slice (some ⟨w.heap.size, 0, none⟩) 0 0) []) := Lib.hid ⟨NBuf.lit0 (Below.refl w.heap.size w) 94 2, Below.refl _ _, fun x hx => by cases hx⟩
 clear h hp
 go_enter Tryz.func23, Tryz.ntmps23
 go_wp2_with fail
 go_loopw [3, 12] (fun d i wr => ∃ (k : Nat) (O : List Rv), k <= t.length /\ i = .int .i64 k /\ Hid (O.length = k) /\ Hid (DTb B w w wr 94 128 d O) /\ Hid (O.map plR = (t.map plR).take k)) (fun _ i _ => t.length - (intOf i).toNat)
 case atStart => exact ⟨0, [], Nat.zero_le _, rfl, Lib.hid rfl, HN0, Lib.hid rfl⟩
 case round =>
  obtain ⟨k, O, hk, rfl, hO, HNB, HRR⟩ := hrel
  obtain ⟨fA, fc, rfl, hfc⟩ := HNB.out.n.buf.shape
  have hbw := HNB.out.n.below
  clear HN0
  by_cases hgo : k < t.length
  ·obtain ⟨x, hx⟩ : ∃ x, t[k]? = some x := ⟨_, List.getElem?_eq_getElem hgo⟩
   obtain ⟨xL, xS, la, lc, sa, sc⟩ := x
   obtain ⟨xb, xo, rfl, x0, x1, _⟩ := (HT.out.below hbw).at_ hx
   have hrr : O.map plR ++ [plR ⟨xL, xS, la, lc, sa, sc⟩] = (t.map plR).take (k + 1) := by
    rw [List.take_add_one, List.getElem?_map, hx, HRR.out]; rfl
   have HR2 := Lib.hid hrr
   have HRX := Lib.hid (show PsAt w (.slice la xL.length lc) xL /\ SmsAt w (.slice sa xS.length sc) xS from HT.out.2 _ (List.mem_of_getElem? hx))
   dsimp only at x0 x1
   obtain ⟨n, hn⟩ : ∃ n, n = O.length := ⟨_, rfl⟩
   have hnb : n <= 1000000 := by have := hO.out; omega
   have HNN := Lib.hid hn
   obtain ⟨hxl, hxs⟩ : xL.length <= 1000000 /\ xS.length <= 1000000 := HP.out _ (List.mem_of_getElem? hx)
   clear hrr hx HRR hn
   obtain ⟨wx, hwx⟩ : ∃ wx, wx = wr.alloc (.cells #[.slice la xL.length lc, .slice sa xS.length sc] 62) := ⟨_, rfl⟩
   have hbx : Below wr.heap.size wr wx := by rw [hwx]; exact below_alloc1 _ _
   have HXB : Hid (Blk wx wr.heap.size 62 #[.slice la xL.length lc, .slice sa xS.length sc]) := Lib.hid (by rw [hwx]; exact Blk.new _ _ _)
   have HNX := Lib.hid (HNB.out.below hbx)
   have hbWx := below_trans hbw hbx
   go_upto_region 6 with fail
   rw [<- hwx]
   obtain ⟨X, hX⟩ : ∃ X, X = wr.heap.size := ⟨_, rfl⟩
   rw [<- hX] at HXB ⊢
   rw [<- HNN.out] at HNX ⊢
   obtain ⟨k0, k1⟩ := HXB.out.c2
   have HXN := Lib.hid (NBuf.nil (Below.refl wx.heap.size wx) 128 2)
   clear hwx hX HNB hbx
   go_wp2_with fail
   go_loopw [6, 19] (fun d i wz => ∃ j : Nat, j <= xL.length /\ i = .int .i64 j /\ Hid (NBuf wx wz 128 2 d j (pcs (xL.take j)))) (fun _ i _ => xL.length - (intOf i).toNat)
   case atStart => exact ⟨0, Nat.zero_le _, rfl, HXN⟩
   case round =>
    obtain ⟨j, hj, rfl, HJ⟩ := hrel
    obtain ⟨jA, jc, rfl, hjc⟩ := HJ.out.buf.shape
    clear HXN
    by_cases hgo2 : j < xL.length
    ·obtain ⟨p, hpj⟩ : ∃ p, xL[j]? = some p := ⟨_, List.getElem?_eq_getElem hgo2⟩
     obtain ⟨pb, po, rfl, hpb, g1, g2⟩ := (HRX.out.1.below (below_trans hbWx HJ.out.below)).at_ hpj
     have HPJ := Lib.hid hpj
     have HN1 := Lib.hid (HJ.out.alloc (.cells #[.string (bs p.1), .string (bs p.2)] 146))
     clear hpj
     go_wp2_with (at_builtin; refine wpList_append_nlit rfl (.tmp 23) (.tmp 25) 43 rfl pair_ty14 rfl HN1.out rfl (by simp) rfl (by simp [Value.oneCell']) (by simp only [maxLen]; omega) (by omega) ?_; intro v3 w3 hn3 _; have HN3 := Lib.hid hn3; clear hn3)
     go_roundw
     case rel =>
      refine ⟨j + 1, by omega, by go_num, Lib.hid ?_⟩
      rw [List.take_add_one, HPJ.out, pcs_append]
      exact HN3.out
     case measure => simp [intOf]; omega
    ·obtain rfl : j = xL.length := by omega
     have hjn := HJ.out
     rw [List.take_length] at hjn
     have HJN := Lib.hid hjn
     have hb2 := below_trans hbWx hjn.below
     have HN2 := Lib.hid (HNX.out.below (below_trans hjn.below (below_alloc1 _ (.cells #[] 41))))
     obtain ⟨q0, q1⟩ := (HXB.out.below hjn.below).c2
     obtain ⟨r0, r1⟩ := (HXB.out.below (below_trans hjn.below (below_alloc1 _ (.cells #[] 41)))).c2
     have HL0 := Lib.hid (NBuf.lit0 (Below.refl wr.heap.size wr) 41 2)
     have HSR := Lib.hid (SlAt.src (P := Tryz.prog) (HRX.out.2.below (below_trans hb2 (below_alloc1 _ (.cells #[] 41)))) (by omega) (t := 32) Tryz.underlying32 (smc_one xS))
     clear hjn HJ
     have hld := fun (w3 : World) (hb : Below wr.heap.size wr w3) => HNX.out.below (below_trans HJN.out.below hb)
     have HLD := Lib.hid hld
     clear hld
     go_wp2_with (at_builtin; first | (refine wpList_append_el rfl (.tmp 30) (.tmp 32) 32 32 rfl sm_ty rfl HL0.out.buf rfl HSR.out (by simp only [maxLen]; omega) (by omega) ?_; intro v3 w3 hb3 ha3 hg3; have hn3 := HL0.out.step hb3 ha3 hg3; rw [Nat.zero_add, List.nil_append] at hn3; have HN3 := Lib.hid hn3; have HD3 := Lib.hid (HLD.out _ hn3.below); obtain ⟨A3, c3, rfl, hc3⟩ := hn3.buf.shape; clear hb3 ha3 hg3 hn3) | (refine wpList_append_nlit rfl (.tmp 28) (.tmp 35) 56 rfl mrow_ty rfl HD3.out.n rfl (by simp) rfl (by simp [Value.oneCell']) (by simp only [maxLen]; have := HNN.out; omega) (by have := HNN.out; omega) ?_; intro v4 w4 hn4 ha4; have HD4 := Lib.hid (DTb.snoc (x := ⟨xL, xS, jA, jc, A3, c3⟩) (HD3.out.below (below_alloc1 _ _)) ⟨.inr (((HJN.out.after hbWx).then_below (below_trans HN3.out.below (below_alloc1 _ _)))), .inr ((HN3.out.after hb2).alloc _)⟩ hn4 ha4 (by decide) (by decide)); clear hn4 ha4))
     go_roundw
     case rel => exact ⟨k + 1, _, by omega, by go_num, Lib.hid (by rw [List.length_append, hO.out]; rfl), HD4, Lib.hid (by rw [List.map_append, <- HR2.out]; rfl)⟩
     case measure => simp [intOf]; omega
  ·obtain rfl : k = t.length := by omega
   have hrr := HRR.out
   rw [List.take_of_length_le (by rw [List.length_map]; exact Nat.le_refl _)] at hrr
   have HR2 := Lib.hid hrr
   clear hrr HRR
   go_wp2_with fail
   go_ret
   exact ⟨_, O, rfl, HNB.out, HR2.out⟩
end Go.Proofs.YtgabmfibfikdbaaGreatDoor

set_option maxHeartbeats 32000000
set_option maxRecDepth 10000
namespace Go.Bar.Mrg
open Go.RowKit Go.Bar Go.Bar.Xor Go.Bar.Lab

structure On3 where
  nm : Nat
  t : Int
  v : Nat
def enc3 (x : On3) : List Value := [.int .u8 (x.nm : Nat), .int .i64 x.t, .int .u64 (x.v : Nat)]
theorem enc3_len (x : On3) : (enc3 x).length = 3 := rfl
def ocs (l : List On3) : List Value := l.flatMap enc3
def O3At (w : World) (v : Value) (l : List On3) : Prop := SlAt w 3 v l.length (ocs l)
theorem O3At.below {w w' : World} {v : Value} {l : List On3} (h : O3At w v l) (hb : Below w.heap.size w w') : O3At w' v l := SlAt.below h hb
theorem O3At.shape {w : World} {v : Value} {l : List On3} (h : O3At w v l) : ∃ A c, v = .slice A l.length c ∧ l.length ≤ c ∧ c ≤ maxLen := SlAt.shape h
theorem O3At.at_ {w : World} {A : Option Addr} {n c i : Nat} {l : List On3} {x : On3} (h : O3At w (.slice A n c) l) (hi : l[i]? = some x) : ∃ b o, A = some ⟨b, o, none⟩ ∧ w.cell? ⟨b, o + i * 3, none⟩ = some (.int .u8 (x.nm : Nat)) ∧ w.cell? ⟨b, o + i * 3 + 1, none⟩ = some (.int .i64 x.t) ∧ w.cell? ⟨b, o + i * 3 + 2, none⟩ = some (.int .u64 (x.v : Nat)) := by
  have hlt : i < l.length := (List.getElem?_eq_some_iff.1 hi).1
  obtain ⟨A', c', he, _⟩ := SlAt.shape h
  injection he with e1 e2 e3
  subst e1; subst e2; subst e3
  obtain ⟨b, o, rfl, hb, hc⟩ := SlAt.cells h (by omega)
  have g := flat_get enc3 3 enc3_len l i x hi
  have g0 := hc _ _ (g 0 (by omega))
  have g1 := hc _ _ (g 1 (by omega))
  have g2 := hc _ _ (g 2 (by omega))
  exact ⟨b, o, rfl, g0, (by rw [Nat.add_assoc]; exact g1), (by rw [Nat.add_assoc]; exact g2)⟩
def tm3 (z : Int) : Int := (z.tmod 1000 + 1000).tmod 1000
theorem tm3_rng (z : Int) : 0 ≤ tm3 z ∧ tm3 z < 1000 := by
  unfold tm3
  have h1 : -1000 < z.tmod 1000 := by have := Int.lt_tmod_of_pos z (show (0 : Int) < 1000 by decide); omega
  rw [Int.tmod_eq_emod_of_nonneg (by omega)]
  omega
def pt3 (x : On3) : Pt := (Go.Proofs.YtgabmfibfikdbaaGreatDoor.lab5 x.nm, (tm3 x.t, x.v))
theorem putS_len (l : List Sm) (s : Sm) : (putS l s).length ≤ l.length + 1 := by
  induction l with
  | nil => exact Nat.le_refl _
  | cons x r ih =>
    unfold putS
    split
    · exact Nat.le_succ _
    · split
      · exact Nat.le_refl _
      · exact Nat.succ_le_succ ih
theorem addG_bound {P : List Pr → Prop} {L : List Pr} {s : Sm} {m : Nat} (hL : P L) : ∀ (b : Bool) (l : List Row), (∀ x ∈ l, P x.1 ∧ x.2.length ≤ m) → ∀ r ∈ addG L s b l, P r.1 ∧ r.2.length ≤ m + 1
  | true, [], _ => fun r hr => by cases hr
  | false, [], _ => fun r hr => by
    obtain rfl := List.mem_singleton.1 hr
    exact ⟨hL, by simp⟩
  | true, x :: l, h => fun r hr => by
    have h1 := h x (List.mem_cons_self ..)
    have h2 := addG_bound (s := s) hL true l fun y hy => h y (List.mem_cons_of_mem _ hy)
    rcases List.mem_cons.1 (show r ∈ (if cmpL L x.1 = 0 then (x.1, putS x.2 s) else x) :: addG L s true l from hr) with e | e
    · rw [e]
      split
      · exact ⟨h1.1, Nat.le_trans (putS_len _ _) (Nat.succ_le_succ h1.2)⟩
      · exact ⟨h1.1, Nat.le_succ_of_le h1.2⟩
    · exact h2 r e
  | false, x :: l, h => fun r hr => by
    have h1 := h x (List.mem_cons_self ..)
    have h2 := addG_bound (s := s) hL true l fun y hy => h y (List.mem_cons_of_mem _ hy)
    have h3 := addG_bound (s := s) hL false l fun y hy => h y (List.mem_cons_of_mem _ hy)
    have hr : r ∈ (if cmpL L x.1 = 0 then (x.1, putS x.2 s) :: addG L s true l else if cmpL L x.1 < 0 then (L, [s]) :: x :: addG L s true l else x :: addG L s false l) := hr
    split at hr
    · rcases List.mem_cons.1 hr with e | e
      · rw [e]; exact ⟨h1.1, Nat.le_trans (putS_len _ _) (Nat.succ_le_succ h1.2)⟩
      · exact h2 r e
    · split at hr
      · rcases List.mem_cons.1 hr with e | e
        · rw [e]; exact ⟨hL, by simp⟩
        · rcases List.mem_cons.1 e with e | e
          · rw [e]; exact ⟨h1.1, Nat.le_succ_of_le h1.2⟩
          · exact h2 r e
      · rcases List.mem_cons.1 hr with e | e
        · rw [e]; exact ⟨h1.1, Nat.le_succ_of_le h1.2⟩
        · exact h3 r e
theorem addAll_bound {P : List Pr → Prop} : ∀ (xs : List Pt) (l : List Row) (m : Nat), (∀ x ∈ xs, P x.1) → (∀ x ∈ l, P x.1 ∧ x.2.length ≤ m) → ∀ r ∈ addAll l xs, P r.1 ∧ r.2.length ≤ m + xs.length
  | [], l, m, _, h => h
  | x :: xs, l, m, hx, h => fun r hr => by
    have h1 := addAll_bound xs (addR l x.1 x.2) (m + 1) (fun y hy => hx y (List.mem_cons_of_mem _ hy)) (addG_bound (hx x (List.mem_cons_self ..)) false l h) r hr
    rw [List.length_cons]
    exact ⟨h1.1, by omega⟩
def tab3 (l : List On3) : List Row := addAll [] ((l.take 40).map pt3)
theorem tab3_bound (xs : List On3) : (addAll [] (xs.map pt3)).length ≤ xs.length ∧ ∀ r ∈ addAll [] (xs.map pt3), r.1.length ≤ 2 ∧ r.2.length ≤ xs.length := by
  refine ⟨?_, fun r hr => ?_⟩
  · have := addAll_len (xs.map pt3) []
    simpa using this
  · have := addAll_bound (P := fun L => L.length ≤ 2) (xs.map pt3) [] 0 (fun x hx => by
      obtain ⟨y, _, rfl⟩ := List.mem_map.1 hx
      exact Go.Proofs.YtgabmfibfikdbaaGreatDoor.lab5_len y.nm) (fun x hx => by cases hx) r hr
    simpa using this
theorem tab3_tb (l : List On3) : Tb (tab3 l) := (addAll_spec _ Tb.nil).1
end Go.Bar.Mrg
namespace Go.Proofs.YtgabmfibfikdbaaGreatDoor
open Go.RowKit Go.Bar Go.Bar.Leb Go.Bar.Lab Go.Bar.Xor Go.Bar.Mrg

theorem DTb.up {B W0 W1 w : World} {T Tp : TypeId} {v : Value} {t : List Rv} (h : DTb B W0 W0 w T Tp v t) (hb : Below W1.heap.size W1 W0) : DTb B W1 W1 w T Tp v t := ⟨h.n.after hb, Below.refl _ _, fun x hx => (h.d x hx).after hb⟩
def FinAd (B w : World) (R : List Row) (vs : Nat → Value) (w' : World) : Prop := ∃ t, DTb B w w w' 62 146 (vs 13) t ∧ t.map plR = R

def RetTwoB (B w : World) (R : List Row) (e : Ending) (w' : World) : Prop := ∃ v1 v2 t1 t2, e = .returned (.tuple #[v1, v2]) ∧ DTb B w w w' 94 128 v1 t1 ∧ DTb B w w w' 62 146 v2 t2 ∧ t1.map plR = R ∧ t2.map plR = R

theorem table_anyB (B : World) (v : Value) (l : List On3) (w : World) (hB : Below B.heap.size B w) (h : O3At w v l) :
    Calls Tryz.prog 21 #[v] w (RetTwoB B w (tab3 l)) := by
  obtain ⟨A, c, rfl, hlc, hcm⟩ := h.shape
  unfold maxLen at hcm
  have HT := Lib.hid h
  have HN0 : Hid (DTb B w w (w.alloc (.cells #[] 62)) 62 146 (.slice (some ⟨w.heap.size, 0, none⟩) 0 0) []) := Lib.hid ⟨NBuf.lit0 (Below.refl w.heap.size w) 62 2, Below.refl _ _, fun x hx => by cases hx⟩
  clear h
  go_enter Tryz.func21, Tryz.ntmps21
  go_wp2_with fail
  go_loopw [4, 5] (fun d i wr => ∃ (k : Nat) (O : List Rv), k ≤ l.length ∧ k ≤ 40 ∧ i = .int .i64 k ∧ Hid (DTb B w w wr 62 146 d O) ∧ Hid (O.map plR = addAll [] ((l.take k).map pt3))) (fun _ i _ => l.length - (intOf i).toNat)
  case atStart => exact ⟨0, [], Nat.zero_le _, Nat.zero_le _, rfl, HN0, Lib.hid rfl⟩
  case round =>
    obtain ⟨k, O, hk, hk2, rfl, HNB, HRR⟩ := hrel
    obtain ⟨fA, fc, rfl, hfc⟩ := HNB.out.n.buf.shape
    have hbw := HNB.out.n.below
    have hbd := tab3_bound (l.take k)
    rw [← HRR.out, List.length_map, List.length_take] at hbd
    have hxb : ∀ x ∈ O, x.ls.length ≤ 2 ∧ x.ss.length ≤ 40 := fun x hx => by
      have := hbd.2 (plR x) (List.mem_map_of_mem hx)
      exact ⟨this.1, by have h2 : x.ss.length ≤ min k l.length := this.2
                        omega⟩
    have hOl : O.length ≤ 40 := by omega
    have HXB := Lib.hid hxb
    clear HN0 hbd hxb
    by_cases hgo : k < l.length ∧ k < 40
    · obtain ⟨hgo, hg4⟩ := hgo
      obtain ⟨p, hx⟩ : ∃ p, l[k]? = some p := ⟨_, List.getElem?_eq_getElem hgo⟩
      obtain ⟨xb, xo, rfl, x0, x1, x2⟩ := (HT.out.below hbw).at_ hx
      have hrr : addR (O.map plR) (lab5 p.nm) (tm3 p.t, p.v) = addAll [] ((l.take (k + 1)).map pt3) := by
        rw [List.take_add_one, hx, List.map_append, addAll_append, ← HRR.out]; rfl
      have HR2 := Lib.hid hrr
      obtain ⟨L, hL⟩ : ∃ L, L = lab5 p.nm := ⟨_, rfl⟩
      have hll : L.length ≤ 2 := by rw [hL]; exact lab5_len _
      have hlb := labels_any p.nm
      rw [← hL] at HR2 hlb
      have HLB := Lib.hid hlb
      have htm := tm3_rng p.t
      have htr : -1000 < p.t.tmod 1000 ∧ p.t.tmod 1000 < 1000 := by
        have h1 := Int.lt_tmod_of_pos p.t (show (0 : Int) < 1000 by decide)
        have h2 := Int.tmod_lt_of_pos p.t (show (0 : Int) < 1000 by decide)
        omega
      have hw1 : IntKind.i64.wrap (p.t.tmod 1000 + 1000) = p.t.tmod 1000 + 1000 := by rw [IntKind.wrap_i64]; omega
      have hw2 : IntKind.i64.wrap (p.t.tmod 1000) = p.t.tmod 1000 := by rw [IntKind.wrap_i64]; omega
      obtain ⟨T, hT⟩ : ∃ T, T = tm3 p.t := ⟨_, rfl⟩
      have hw4 : (p.t.tmod 1000 + 1000).tmod 1000 = T := hT.symm
      rw [← hT] at HR2 htm
      clear hT
      have hw3 : IntKind.i64.wrap T = T := by rw [IntKind.wrap_i64]; omega
      clear hrr hx HRR hL hlb
      obtain ⟨n, hn⟩ : ∃ n, n = O.length := ⟨_, rfl⟩
      have HNN := Lib.hid hn
      rw [← hn] at hOl
      clear hn
      obtain ⟨wb, hwx⟩ : ∃ wb, wb = wr.alloc (.cells #[.int .u8 (p.nm : Nat), .int .i64 p.t, .int .u64 (p.v : Nat)] 137) := ⟨_, rfl⟩
      have hbx : Below wr.heap.size wr wb := by rw [hwx]; exact below_alloc1 _ _
      have HX : Hid (Blk wb wr.heap.size 137 #[.int .u8 (p.nm : Nat), .int .i64 p.t, .int .u64 (p.v : Nat)]) := Lib.hid (by rw [hwx]; exact Blk.new _ _ _)
      have HNX := Lib.hid (HNB.out.below hbx)
      have hbWx := below_trans hbw hbx
      have hk40 : (k : Int) < 40 := by omega
      go_upto_region 6 with fail
      rw [← hwx]
      obtain ⟨X, hX⟩ : ∃ X, X = wr.heap.size := ⟨_, rfl⟩
      rw [← hX] at HX ⊢
      rw [← HNN.out] at HNX ⊢
      clear hwx hX HNB hbx
      have hstT : ∀ k v w w', Below w.heap.size w w' → Dv.factOf ([(2, ((fun v => v = (.int .u8 (p.nm : Nat))), noFact, 2)), (3, ((fun v => ∃ A c, v = .slice A L.length c), (fun v w' => FBuf wb w' 128 2 v L.length (pcs L)), 13)), (4, ((fun v => ∃ A c, v = .slice A L.length c), (fun v w' => FBuf wb w' 146 2 v L.length (pcs L)), 13)), (6, ((fun v => v = (.int .i64 p.t)), noFact, 6)), (11, ((fun v => v = (.int .u64 (p.v : Nat))), noFact, 11)), (13, ((fun v => ∃ A m c, v = .slice A m c), noFact, 13))] : List (Nat × Dv.Kp)) k v w → Dv.factOf ([(2, ((fun v => v = (.int .u8 (p.nm : Nat))), noFact, 2)), (3, ((fun v => ∃ A c, v = .slice A L.length c), (fun v w' => FBuf wb w' 128 2 v L.length (pcs L)), 13)), (4, ((fun v => ∃ A c, v = .slice A L.length c), (fun v w' => FBuf wb w' 146 2 v L.length (pcs L)), 13)), (6, ((fun v => v = (.int .i64 p.t)), noFact, 6)), (11, ((fun v => v = (.int .u64 (p.v : Nat))), noFact, 11)), (13, ((fun v => ∃ A m c, v = .slice A m c), noFact, 13))] : List (Nat × Dv.Kp)) k v w' := Dv.fact_st (by
        simp only [List.forall_mem_cons, List.not_mem_nil, false_imp_iff, implies_true, and_true]
        refine ⟨?_, ?_, ?_, ?_, ?_, ?_⟩
        · exact fun _ _ _ _ _ => trivial
        · exact fun _ _ _ hb h => h.below hb
        · exact fun _ _ _ hb h => h.below hb
        · exact fun _ _ _ _ _ => trivial
        · exact fun _ _ _ _ _ => trivial
        · exact fun _ _ _ _ _ => trivial)
      have htrT : ∀ x ∈ ([(2, ((fun v => v = (.int .u8 (p.nm : Nat))), noFact, 2)), (3, ((fun v => ∃ A c, v = .slice A L.length c), (fun v w' => FBuf wb w' 128 2 v L.length (pcs L)), 13)), (4, ((fun v => ∃ A c, v = .slice A L.length c), (fun v w' => FBuf wb w' 146 2 v L.length (pcs L)), 13)), (6, ((fun v => v = (.int .i64 p.t)), noFact, 6)), (11, ((fun v => v = (.int .u64 (p.v : Nat))), noFact, 11)), (13, ((fun v => ∃ A m c, v = .slice A m c), noFact, 13))] : List (Nat × Dv.Kp)), (([(2, ((fun v => v = (.int .u8 (p.nm : Nat))), noFact, 2)), (3, ((fun v => ∃ A c, v = .slice A L.length c), (fun v w' => FBuf wb w' 128 2 v L.length (pcs L)), 13)), (4, ((fun v => ∃ A c, v = .slice A L.length c), (fun v w' => FBuf wb w' 146 2 v L.length (pcs L)), 13)), (6, ((fun v => v = (.int .i64 p.t)), noFact, 6)), (11, ((fun v => v = (.int .u64 (p.v : Nat))), noFact, 11)), (13, ((fun v => ∃ A m c, v = .slice A m c), noFact, 13))] : List (Nat × Dv.Kp)).lookup x.2.2.2).isSome = true := by
        simp only [List.forall_mem_cons, List.not_mem_nil, false_imp_iff, implies_true, and_true]
        exact ⟨by kernel_rfl, by kernel_rfl, by kernel_rfl, by kernel_rfl, by kernel_rfl, by kernel_rfl⟩
      refine Dv.wp_region_two (L := ([(2, ((fun v => v = (.int .u8 (p.nm : Nat))), noFact, 2)), (3, ((fun v => ∃ A c, v = .slice A L.length c), (fun v w' => FBuf wb w' 128 2 v L.length (pcs L)), 13)), (4, ((fun v => ∃ A c, v = .slice A L.length c), (fun v w' => FBuf wb w' 146 2 v L.length (pcs L)), 13)), (6, ((fun v => v = (.int .i64 p.t)), noFact, 6)), (11, ((fun v => v = (.int .u64 (p.v : Nat))), noFact, 11)), (13, ((fun v => ∃ A m c, v = .slice A m c), noFact, 13))] : List (Nat × Dv.Kp))) (m := 13) (Fin := (FinAd B w (addR (O.map plR) L (T, p.v)))) (by kernel_rfl) 39 (by kernel_rfl) rfl (by kernel_rfl) ?_ ?_ ?_
      · simp only [List.forall_mem_cons, List.not_mem_nil, false_imp_iff, implies_true, and_true]
        exact ⟨⟨_, rfl⟩, ⟨_, none, 0, rfl⟩, ⟨_, none, 0, rfl⟩, ⟨_, rfl⟩, ⟨_, rfl⟩, ⟨_, none, 0, 0, rfl⟩⟩
      · exact (fun vs vs' w' h hf => by unfold FinAd at hf ⊢; rw [← h 13 (by kernel_rfl) (by decide)]; exact hf)
      repeat (first
        | (refine Dv.Chain.step (v := ?_) (a' := ?_) rfl rfl rfl ?_ ?_ ?_; rotate_left 2; (focus (intro w; go_simp; try with_reducible rfl)); focus (simp only [Act.put, pqA, pqS, pqZ]; try rfl))
        | (refine Dv.XT.call (i := 2) (a' := ?_) _ _ rfl (by decide) hstT rfl rfl (fun wx hw hF => ?_) htrT ?_ ?_; rotate_left 1; (focus (obtain ⟨g0, g1, g2⟩ := Blk.c3 (HX.out.below hw); go_simp; first | exact ⟨rfl, rB⟩ | exact rB)); focus (simp only [Act.put, pqA, pqS, pqZ]; try rfl))
        | (refine Dv.XT.make (i := 3) _ _ _ rfl (by decide) hstT rfl rfl (fun wx hw hF => ?_) htrT (fun v3 hv3 a' ha => ?_); (focus (go_simp); (with_reducible refine (HLB.out _).mono ?_); (rintro e w' ⟨v, rfl, hnb⟩); (obtain ⟨A, c, rfl, _⟩ := hnb.buf.shape); (exact ⟨⟨A, c, rfl⟩, hnb.below, hnb.buf, fun k hk => Nat.le_trans hw.size (hnb.new k hk)⟩)); obtain ⟨A3, c3, rfl⟩ := hv3; simp only [Act.put, pqA, pqS, pqZ] at ha; subst ha)
        | (refine Dv.XT.make (i := 4) _ _ _ rfl (by decide) hstT rfl rfl (fun wx hw hF => ?_) htrT (fun v4 hv4 a' ha => ?_); (focus (have f3 : (fun v w' => FBuf wb w' 128 2 v L.length (pcs L) : Value → World → Prop) _ wx := hF 3 _ (by kernel_rfl) rfl (by kernel_rfl)); (have h3 : PsAt wx (.slice A3 L.length c3) L := f3.slice); (go_simp); (with_reducible refine (told_any6 _ L _ h3 (by omega)).mono ?_); (rintro e w' ⟨v, rfl, hnb⟩); (obtain ⟨A, c, rfl, _⟩ := hnb.buf.shape); (exact ⟨⟨A, c, rfl⟩, hnb.below, hnb.buf, fun k hk => Nat.le_trans hw.size (hnb.new k hk)⟩)); obtain ⟨A4, c4, rfl⟩ := hv4; simp only [Act.put, pqA, pqS, pqZ] at ha; subst ha)
        | (refine Dv.XT.call (i := 6) (a' := ?_) _ _ rfl (by decide) hstT rfl rfl (fun wx hw hF => ?_) htrT ?_ ?_; rotate_left 1; (focus (obtain ⟨g0, g1, g2⟩ := Blk.c3 (HX.out.below hw); go_simp; first | exact ⟨rfl, rB⟩ | exact rB)); focus (simp only [Act.put, pqA, pqS, pqZ]; try rfl))
        | (refine Dv.XT.call (i := 11) (a' := ?_) _ _ rfl (by decide) hstT rfl rfl (fun wx hw hF => ?_) htrT ?_ ?_; rotate_left 1; (focus (obtain ⟨g0, g1, g2⟩ := Blk.c3 (HX.out.below hw); go_simp; first | exact ⟨rfl, rB⟩ | exact rB)); focus (simp only [Act.put, pqA, pqS, pqZ]; try rfl))
        | (refine Dv.XT.last (i := 13) _ _ _ rfl rfl (by kernel_rfl) rfl rfl (fun vs wx hw hF => ?_) (fun v13 hv13 a' ha => ?_); (focus (have f4 : (fun v w' => FBuf wb w' 146 2 v L.length (pcs L) : Value → World → Prop) _ wx := (hF 4 _ (by kernel_rfl) rfl).1 (by kernel_rfl)); (have q4 := (hF 4 _ (by kernel_rfl) rfl).2); (have h4 : PsAt wx (.slice A4 L.length c4) L := f4.slice); (go_simp); (have hd := HNX.out.below hw); (have hbw2 := below_trans hbWx hw); (with_reducible refine (radd_any B w _ _ O L (T, p.v) wx (hd.rtb hB).tb h4 hbw2 hd.d (.inr ⟨f4.buf, hbw2, fun k hk => Nat.le_trans hbWx.size (f4.new k hk)⟩) (by have := HNN.out; omega) (fun y hy => by have := HXB.out y hy; omega)).mono ?_); (rintro e w' ⟨v, t', rfl, hdt, hmp⟩); (obtain ⟨A6, c6, rfl, _⟩ := hdt.n.buf.shape); (refine ⟨⟨_, _, _, rfl⟩, t', ?_, hmp⟩); (rw [Dv.updV_self]); (exact hdt.after hbw2 (Below.refl _ _))); obtain ⟨A5, m5, c5, rfl⟩ := hv13; simp only [Act.put, pqA, pqS, pqZ] at ha; subst ha)
        | (refine Dv.Chain.skip' (a' := ?_) rfl rfl rfl ?_ ?_; rotate_left 1; focus (simp only [Act.put, pqA, pqS, pqZ]; try rfl)))
      refine Dv.XT.end_ (by decide) (fun vs w10 hv hfin => ?_)
      obtain ⟨t', hd', hm'⟩ := hfin
      rw [hv 13 _ rfl] at hd'
      have HD := Lib.hid hd'
      have HM := Lib.hid (hm'.trans HR2.out)
      clear hd' hm' hv HNX HX HR2 HLB
      go_wp2_with fail
      go_roundw
      case rel => exact ⟨k + 1, t', by omega, by omega, by go_num, HD, HM⟩
      case measure => simp [intOf]; omega
    · have hend : l.take k = l.take 40 := by
        rcases Nat.lt_or_ge k 40 with h1 | h1
        · rw [List.take_of_length_le (by omega), List.take_of_length_le (by omega)]
        · obtain rfl : k = 40 := by omega
          rfl
      have hrr := HRR.out
      rw [hend] at hrr
      have hrr : O.map plR = tab3 l := hrr
      obtain ⟨n, hn⟩ : ∃ n, n = O.length := ⟨_, rfl⟩
      have HNN := Lib.hid hn
      have HR3 := Lib.hid hrr
      have hrw := rows14_any B (.slice fA O.length fc) O wr (HNB.out.rtb hB).tb (by omega) (fun y hy => by have := HXB.out y hy; omega)
      rw [hrr] at hrw
      rw [← hn] at hOl hrw ⊢
      have HRW := Lib.hid hrw
      clear hrr hend HRR hrw hn
      have hcase : (k : Int) = (l.length : Int) ∨ ((k : Int) < (l.length : Int) ∧ (40 : Int) ≤ (k : Int)) := by omega
      rcases hcase with h1 | ⟨h1, h2⟩
      case' inl => have h3 : (l.length : Int) ≤ (k : Int) := by omega
      case' inl => clear h1
      all_goals
        go_wp2_with fail
        refine HRW.out.mono ?_
        rintro e w5 ⟨v5, t5, rfl, hd5, hm5⟩
        have HD5 := Lib.hid (And.intro hd5 hm5)
        clear hd5 hm5
        go_wp2_with fail
        go_ret2
        have hnb := HNB.out
        rw [← HNN.out] at hnb
        exact ⟨_, _, t5, O, rfl, HD5.out.1.up hbw, hnb.below HD5.out.1.n.below, HD5.out.2, HR3.out⟩

def RetTwo (w : World) (R : List Row) : Ending → World → Prop := RetTwoB w w R
theorem table_any (v : Value) (l : List On3) (w : World) (h : O3At w v l) : Calls Tryz.prog 21 #[v] w (RetTwo w (tab3 l)) := table_anyB w v l w (Below.refl _ _) h
end Go.Proofs.YtgabmfibfikdbaaGreatDoor

namespace Go.Bar.Bok
open Go.RowKit Go.Bar Go.Bar.Leb Go.Bar.Frm Go.Bar.Lab Go.Bar.Xor Go.Bar.Mrg Go.Bar.Met

theorem putS_all {p : Sm -> Prop} {s : Sm} (hs : p s) {l : List Sm} (h : ∀ x ∈ l, p x) : ∀ x ∈ putS l s, p x := fun x hx => (putS_mem hx).elim (h x) (fun e => e ▸ hs)
theorem addG_all {p : Sm -> Prop} {L : List Pr} {s : Sm} (hs : p s) : ∀ (b : Bool) (l : List Row), (∀ r ∈ l, ∀ y ∈ r.2, p y) -> ∀ r ∈ addG L s b l, ∀ y ∈ r.2, p y
 | true, [], _ => fun r hr => by cases hr
 | false, [], _ => fun r hr => by
  obtain rfl := List.mem_singleton.1 hr
  intro y hy
  obtain rfl := List.mem_singleton.1 hy
  exact hs
 | true, x :: l, h => fun r hr => by
  have h1 := h x (List.mem_cons_self ..)
  have h2 := addG_all (L := L) hs true l fun y hy => h y (List.mem_cons_of_mem _ hy)
  rcases List.mem_cons.1 (show r ∈ (if cmpL L x.1 = 0 then (x.1, putS x.2 s) else x) :: addG L s true l from hr) with e | e
  ·rw [e]
   split
   ·exact putS_all hs h1
   ·exact h1
  ·exact h2 r e
 | false, x :: l, h => fun r hr => by
  have h1 := h x (List.mem_cons_self ..)
  have h2 := addG_all (L := L) hs true l fun y hy => h y (List.mem_cons_of_mem _ hy)
  have h3 := addG_all (L := L) hs false l fun y hy => h y (List.mem_cons_of_mem _ hy)
  have h4 : ∀ y ∈ [s], p y := fun y hy => by obtain rfl := List.mem_singleton.1 hy; exact hs
  have hr : r ∈ (if cmpL L x.1 = 0 then (x.1, putS x.2 s) :: addG L s true l else if cmpL L x.1 < 0 then (L, [s]) :: x :: addG L s true l else x :: addG L s false l) := hr
  split at hr
  ·rcases List.mem_cons.1 hr with e | e
   ·rw [e]; exact putS_all hs h1
   ·exact h2 r e
  ·split at hr
   ·rcases List.mem_cons.1 hr with e | e
    ·rw [e]; exact h4
    ·rcases List.mem_cons.1 e with e | e
     ·rw [e]; exact h1
     ·exact h2 r e
   ·rcases List.mem_cons.1 hr with e | e
    ·rw [e]; exact h1
    ·exact h3 r e
theorem addAll_all {p : Sm -> Prop} : ∀ (xs : List Pt) (l : List Row), (∀ x ∈ xs, p x.2) -> (∀ r ∈ l, ∀ y ∈ r.2, p y) -> ∀ r ∈ addAll l xs, ∀ y ∈ r.2, p y
 | [], _, _, h => h
 | x :: xs, l, hx, h => addAll_all xs (addR l x.1 x.2) (fun y hy => hx y (List.mem_cons_of_mem _ hy)) (addG_all (hx x (List.mem_cons_self ..)) false l h)
theorem lab5_ok (n : Nat) : Lab.Ok (Go.Proofs.YtgabmfibfikdbaaGreatDoor.lab5 n) := by
 have h : ∀ j, j < 5 -> Lab.Ok (Go.Proofs.YtgabmfibfikdbaaGreatDoor.lab5 j) := by decide
 have e : Go.Proofs.YtgabmfibfikdbaaGreatDoor.lab5 n = Go.Proofs.YtgabmfibfikdbaaGreatDoor.lab5 (n % 5) := by unfold Go.Proofs.YtgabmfibfikdbaaGreatDoor.lab5; rw [Nat.mod_mod]
 rw [e]
 exact h _ (Nat.mod_lt _ (by decide))

structure SmallT (a b : Int) (R : List Row) : Prop where
 good : GoodP R
 n : R.length <= 40
 lab : ∀ r ∈ R, ∃ k, r.1 = Go.Proofs.YtgabmfibfikdbaaGreatDoor.lab5 k
 ne : ∀ r ∈ R, r.2 ≠ []
 len : ∀ r ∈ R, r.2.length <= 400
 tm : ∀ r ∈ R, ∀ y ∈ r.2, a <= y.1 /\ y.1 < b
 v : ∀ r ∈ R, ∀ y ∈ r.2, y.2 < 18446744073709551616
theorem tab3_small (l : List On3) (h : ∀ z ∈ l, z.v < 18446744073709551616) : SmallT 0 1000 (tab3 l) := by
 have htb := tab3_tb l
 have h1 := tab3_bound (l.take 40)
 have hl : (l.take 40).length <= 40 := by rw [List.length_take]; omega
 have h2 := addAll_bound (P := fun L => ∃ k, L = Go.Proofs.YtgabmfibfikdbaaGreatDoor.lab5 k) ((l.take 40).map pt3) [] 0 (fun x hx => by
  obtain ⟨y, _, rfl⟩ := List.mem_map.1 hx
  exact ⟨y.nm, rfl⟩) (fun x hx => by cases hx)
 have h3 := addAll_all (p := fun y => (0 <= y.1 /\ y.1 < 1000) /\ y.2 < 18446744073709551616) ((l.take 40).map pt3) [] (fun x hx => by
  obtain ⟨y, hy, rfl⟩ := List.mem_map.1 hx
  exact ⟨tm3_rng y.t, h y (List.mem_of_mem_take hy)⟩) (fun x hx => by cases hx)
 exact ⟨htb.good, by have := h1.1; show (addAll _ _).length <= _; omega, fun r hr => (h2 r hr).1, htb.ne, fun r hr => by have := (h1.2 r hr).2; omega, fun r hr y hy => (h3 r hr y hy).1, fun r hr y hy => (h3 r hr y hy).2⟩

section
variable {a b : Int} {R : List Row}
theorem SmallT.row (h : SmallT a b R) (ha : 0 <= a) (hb : b <= 1099511627776) : ∀ r ∈ R, RowOk a b r := fun r hr => by
 obtain ⟨k, hk⟩ := h.lab r hr
 obtain ⟨x, hx, e1⟩ := first_mem (h.ne r hr)
 obtain ⟨y, hy, e2⟩ := last_mem (h.ne r hr)
 exact ⟨h.ne r hr, by rw [hk]; exact lab5_ok k, by rw [e1]; exact (h.tm r hr x hx).1, by rw [e2]; exact (h.tm r hr y hy).2, fun z hz => by have := h.tm r hr z hz; omega⟩
theorem SmallT.smok (h : SmallT a b R) (ha : 0 <= a) (hb : b <= 1099511627776) : ∀ r ∈ R, SmOk r.2 := fun _ hr => row_sm (h.row ha hb) h.good h.v hr
theorem bCh_bound {K : Nat} : ∀ {R : List Row}, (∀ r ∈ R, (chB r.2).length <= K) -> (bCh R).length <= K * R.length
 | [], _ => Nat.zero_le _
 | r :: R, h => by
  have h1 := h r (List.mem_cons_self ..)
  have h2 := bCh_bound (R := R) fun x hx => h x (List.mem_cons_of_mem _ hx)
  unfold bCh at h2 ⊢
  rw [List.flatMap_cons, List.length_append, List.length_cons, Nat.mul_succ]
  omega
theorem SmallT.ch (h : SmallT a b R) (ha : 0 <= a) (hb : b <= 1099511627776) : (bCh R).length <= 400000 := by
 have h1 := bCh_bound (K := 9600) (R := R) fun r hr => by
  have h2 := chB_len (h.smok ha hb r hr)
  have h3 := h.len r hr
  unfold nP at h2
  omega
 have h2 := h.n
 omega
theorem enBs_bound : ∀ {l : List En}, (∀ x ∈ l, EnOk x) -> (l.flatMap enB).length <= 800 * l.length
 | [], _ => Nat.zero_le _
 | x :: l, h => by
  have h1 := enB_len (h x (List.mem_cons_self ..))
  have h2 := enBs_bound (l := l) fun y hy => h y (List.mem_cons_of_mem _ hy)
  rw [List.flatMap_cons, List.length_append, List.length_cons]
  omega
theorem SmallT.idx (h : SmallT a b R) (ha : 0 <= a) (hb : b <= 1099511627776) : (idxD (bEn R 0)).length <= 40000 := by
 have h1 := enBs_bound (bEn_ok (h.row ha hb) h.good (by have := h.ch ha hb; omega))
 rw [bEn_len] at h1
 have h2 := h.n
 have h3 := u_len (bEn R 0).length (by rw [bEn_len]; omega)
 unfold idxD
 rw [List.length_append]
 omega
theorem SmallT.idxB (h : SmallT a b R) (ha : 0 <= a) (hb : b <= 1099511627776) : (idxB (bEn R 0)).length <= 50000 := by
 have h1 := h.idx ha hb
 have h2 := u_len (idxD (bEn R 0)).length (by omega)
 unfold Bok.idxB
 rw [rec_len]
 show 5 + (u (idxD (bEn R 0)).length).length + (idxD (bEn R 0)).length <= _
 omega
theorem cnt_bound {K : Nat} : ∀ {R : List Row}, (∀ r ∈ R, 1 <= r.2.length /\ r.2.length <= K) -> R.length <= cntR R /\ cntR R <= K * R.length
 | [], _ => ⟨Nat.le_refl _, Nat.le_refl _⟩
 | r :: R, h => by
  have h1 := h r (List.mem_cons_self ..)
  have h2 := cnt_bound (R := R) fun x hx => h x (List.mem_cons_of_mem _ hx)
  unfold cntR at h2 ⊢
  rw [List.map_cons, List.sum_cons, List.length_cons, Nat.mul_succ]
  omega
theorem SmallT.cnt (h : SmallT a b R) : R.length <= cntR R /\ cntR R <= 16000 := by
 have h1 := cnt_bound (K := 400) (R := R) fun r hr => ⟨by
  have := h.ne r hr
  cases hc : r.2 with
  | nil => exact absurd hc this
  | cons => simp, h.len r hr⟩
 have h2 := h.n
 omega
theorem SmallT.bd (h : SmallT a b R) (ha : 0 <= a) (hab : a < b) (hb : b <= 1099511627776) {lv : Int} (h1 : 1 <= lv) (h9 : lv <= 9) {t s : Nat} (ht : t < 32 ^ 8) (hs : s < 32 ^ 8) : BdOk (Idt.mk t s) a b lv [] R := by
 have hc := h.cnt
 have h2 := h.ch ha hb
 have h3 := h.idxB ha hb
 refine ⟨h.good, h.row ha hb, ⟨idOk_mk t s ht hs, ha, hab, hb, h1, h9, ?_, ?_, ?_⟩, rfl, Nat.zero_le _, fun i hi => ?_, fun i hi => absurd hi (Nat.not_lt_zero _)⟩
 ·show (0 : Int) <= (R.length : Nat); omega
 ·show ((R.length : Nat) : Int) <= (cntR R : Nat); omega
 ·show ((cntR R : Nat) : Int) <= _; omega
 ·rcases i with _ | _ | i
  ·exact ⟨rfl, by show (0 : Int) <= ((bCh R).length : Nat); omega, by show (((bCh R).length : Nat) : Int) <= _; omega⟩
  ·exact ⟨rfl, by show (0 : Int) <= ((Bok.idxB (bEn R 0)).length : Nat); omega, by show (((Bok.idxB (bEn R 0)).length : Nat) : Int) <= _; omega⟩
  ·omega
theorem SmallT.back (h : SmallT a b R) (ha : 0 <= a) (hab : a < b) (hb : b <= 1099511627776) {lv : Int} (h1 : 1 <= lv) (h9 : lv <= 9) {t s : Nat} (ht : t < 32 ^ 8) (hs : s < 32 ^ 8) : tableR (bMt (Idt.mk t s) a b lv [] R) (bCh R) (Bok.idxB (bEn R 0)) = (R, 0) :=
 tableR_of (h.bd ha hab hb h1 h9 ht hs) h.v (by have := h.n; omega) (by have := h.idx ha hb; omega) (by have := h.ch ha hb; omega)
end

def longS (n st : Nat) : List Sm := (List.range n).map fun i => (((i * st : Nat) : Int), i % 3)
def longT (n st : Nat) : List Row := [(Go.Proofs.YtgabmfibfikdbaaGreatDoor.lab5 0, longS n st)]
theorem longS_len (n st : Nat) : (longS n st).length = n := by unfold longS; rw [List.length_map, List.length_range]
theorem longS_succ (n st : Nat) : longS (n + 1) st = longS n st ++ [(((n * st : Nat) : Int), n % 3)] := by unfold longS; rw [List.range_succ, List.map_append]; rfl
theorem longS_mem {n st : Nat} {x : Sm} (h : x ∈ longS n st) : ∃ i, i < n /\ x = (((i * st : Nat) : Int), i % 3) := by
 obtain ⟨i, hi, rfl⟩ := List.mem_map.1 h
 exact ⟨i, List.mem_range.1 hi, rfl⟩
theorem longS_ris {n st : Nat} (h : 0 < st) : Ris (longS n st) := by
 induction n with
 | zero => exact List.Pairwise.nil
 | succ n ih =>
  rw [longS_succ]
  refine List.pairwise_append.2 ⟨ih, List.pairwise_singleton _ _, fun x hx y hy => ?_⟩
  obtain ⟨i, hi, rfl⟩ := longS_mem hx
  obtain rfl := List.mem_singleton.1 hy
  have := Nat.mul_lt_mul_of_pos_right hi h
  show ((i * st : Nat) : Int) < ((n * st : Nat) : Int)
  omega
theorem long_small {n st : Nat} {b : Int} (hn : 0 < n) (hn2 : n <= 400) (hs : 0 < st) (hb : ((400 * st : Nat) : Int) <= b) : SmallT 0 b (longT n st) := by
 have hone : ∀ {p : Row -> Prop}, p (Go.Proofs.YtgabmfibfikdbaaGreatDoor.lab5 0, longS n st) -> ∀ r ∈ longT n st, p r := fun h r hr => by
  obtain rfl := List.mem_singleton.1 hr
  exact h
 refine ⟨⟨List.pairwise_singleton _ _, hone (longS_ris hs)⟩, (by decide : 1 <= 40), hone ⟨0, rfl⟩, hone ?_, hone ?_, hone ?_, hone ?_⟩
 ·intro e
  have h1 := longS_len n st
  have e : longS n st = [] := e
  rw [e] at h1
  have h1 : 0 = n := h1
  omega
 ·show (longS n st).length <= _
  rw [longS_len]; exact hn2
 ·intro y hy
  obtain ⟨i, hi, rfl⟩ := longS_mem hy
  have h1 : i * st < 400 * st := Nat.mul_lt_mul_of_pos_right (by omega) hs
  exact ⟨by show (0 : Int) <= ((i * st : Nat) : Int); omega, by show ((i * st : Nat) : Int) < _; omega⟩
 ·intro y hy
  obtain ⟨i, hi, rfl⟩ := longS_mem hy
  show i % 3 < _
  omega
end Go.Bar.Bok

set_option maxHeartbeats 32000000
set_option maxRecDepth 10000
namespace Go.Proofs.YtgabmfibfikdbaaGreatDoor
open Go.RowKit Go.Bar Go.Bar.Leb Go.Bar.Lab Go.Bar.Xor Go.Bar.Mrg

theorem SmsAt.at2 {w : World} {b o n c i : Nat} {l : List Sm} {x : Sm} (h : SmsAt w (.slice (some ⟨b, o, none⟩) n c) l) (hi : l[i]? = some x) : w.cell? ⟨b, o + i * 2, none⟩ = some (.int .i64 x.1) /\ w.cell? ⟨b, o + i * 2 + 1, none⟩ = some (.int .u64 (x.2 : Nat)) := by
 obtain ⟨b', o', he, _, h1, h2⟩ := h.at_ hi
 injection he with he
 injection he with e1 e2 _
 subst e1; subst e2
 exact ⟨h1, h2⟩

theorem rsame_any (v v' : Value) (t t' : List Rv) (w : World) (h : TbAt w v t) (h' : TbAt w v' t') (he : t.map plR = t'.map plR) :
  Calls Tryz.prog 28 #[v, v'] w (RetBelow w (.bool true)) := by
 obtain ⟨A, c, rfl, hlc, hcm⟩ := h.shape
 obtain ⟨A', c', rfl, hlc', hcm'⟩ := h'.shape
 unfold maxLen at hcm hcm'
 have hlen : t'.length = t.length := by have := congrArg List.length he; simpa using this.symm
 obtain ⟨n, hn⟩ : ∃ n, n = t.length := ⟨_, rfl⟩
 rw [hlen]
 rw [<- hn] at hlc hlen ⊢
 have HT := Lib.hid h
 have HT' := Lib.hid h'
 have HE := Lib.hid he
 have HN := Lib.hid hn
 have HL := Lib.hid hlen
 clear h h' he hn hlen hlc'
 go_enter Tryz.func28, Tryz.ntmps28
 go_wp2_with fail
 go_loopw [14] (fun i wr => ∃ k : Nat, k <= n /\ i = .int .i64 k /\ Below w.heap.size w wr) (fun i _ => n - (intOf i).toNat)
 case atStart => exact ⟨0, Nat.zero_le _, rfl, Below.refl _ _⟩
 case round =>
  obtain ⟨k, hk, rfl, hb⟩ := hrel
  by_cases hgo : k < n
  ·obtain ⟨x, hx⟩ : ∃ x, t[k]? = some x := ⟨_, List.getElem?_eq_getElem (by have := HN.out; omega)⟩
   obtain ⟨y, hy⟩ : ∃ y, t'[k]? = some y := ⟨_, List.getElem?_eq_getElem (by have := HL.out; omega)⟩
   have hxy : plR x = plR y := by
    have h1 : (t.map plR)[k]? = some (plR x) := by rw [List.getElem?_map, hx]; rfl
    have h2 : (t'.map plR)[k]? = some (plR y) := by rw [List.getElem?_map, hy]; rfl
    rw [HE.out, h2] at h1
    injection h1 with h1; exact h1.symm
   obtain ⟨b, o, rfl, _, _, hrx⟩ := (HT.out).at_ hx
   obtain ⟨b', o', rfl, _, _, hry⟩ := (HT'.out).at_ hy
   obtain ⟨L, S, la, lc, sa, sc⟩ := x
   obtain ⟨L', S', la', lc', sa', sc'⟩ := y
   obtain ⟨e1, e2⟩ : L = L' /\ S = S' := by
    injection hxy with e1 e2
    exact ⟨e1, e2⟩
   clear hxy
   subst e1; subst e2
   have hc := fun w' (hb : Below w.heap.size w w') => rcompare_any (.slice la L.length lc) (.slice la' L.length lc') L L w' (hrx.1.below hb) (hry.1.below hb)
   rw [cmpL_self] at hc
   have HC := Lib.hid hc
   have HX := Lib.hid (fun w' (hb : Below w.heap.size w w') => show w'.cell? ⟨b, o + k * 2, none⟩ = some (.slice la L.length lc) /\ w'.cell? ⟨b, o + k * 2 + 1, none⟩ = some (.slice sa S.length sc) from ⟨((HT.out.below hb).at2 hx).1, ((HT.out.below hb).at2 hx).2.1⟩)
   have HY := Lib.hid (fun w' (hb : Below w.heap.size w w') => show w'.cell? ⟨b', o' + k * 2, none⟩ = some (.slice la' L.length lc') /\ w'.cell? ⟨b', o' + k * 2 + 1, none⟩ = some (.slice sa' S.length sc') from ⟨((HT'.out.below hb).at2 hy).1, ((HT'.out.below hb).at2 hy).2.1⟩)
   obtain ⟨_, _, _, hs1, hs2⟩ := hrx.2.shape
   have hsl : (S.length : Int) <= 9223372036854775807 := by unfold maxLen at hs2; dsimp only at hs1; omega
   have HS := Lib.hid (show SmsAt w (.slice sa S.length sc) S from hrx.2)
   have HS' := Lib.hid (show SmsAt w (.slice sa' S.length sc') S from hry.2)
   clear hx hy hrx hry hc hs1 hs2
   go_upto_region 6 with fail
   refine wp_region_known [(4, .slice la L.length lc), (9, .slice la' L.length lc'), (10, .int .i64 0), (17, .slice sa S.length sc), (23, .slice sa' S.length sc')] (by kernel_rfl) 72 (by kernel_rfl) rfl ?_
   repeat (first
    | (refine Chain.step (v := ?_) (a' := ?_) rfl rfl rfl ?_ ?_ ?_; rotate_left 2; (focus (intro w; go_simp; try with_reducible rfl)); focus (simp only [Act.put, pqA, pqS, pqZ]; try rfl))
    | (refine Chain.call (i := 4) (a' := ?_) _ rfl rfl rfl (fun wx hw => ?_) ?_ ?_; rotate_left 1; (focus (obtain ⟨g0, g1⟩ := HX.out _ (below_trans hb hw)); (go_simp; first | exact ⟨rfl, Below.refl _ _⟩ | exact Below.refl _ _)); focus (simp only [Act.put, pqA, pqS, pqZ]; try rfl))
    | (refine Chain.call (i := 9) (a' := ?_) _ rfl rfl rfl (fun wx hw => ?_) ?_ ?_; rotate_left 1; (focus (obtain ⟨g0, g1⟩ := HY.out _ (below_trans hb hw)); (go_simp; first | exact ⟨rfl, Below.refl _ _⟩ | exact Below.refl _ _)); focus (simp only [Act.put, pqA, pqS, pqZ]; try rfl))
    | (refine Chain.call (i := 10) (a' := ?_) _ rfl rfl rfl (fun wx hw => ?_) ?_ ?_; rotate_left 1; (focus (go_simp; (with_reducible refine (HC.out _ (below_trans hb hw)).mono ?_); exact (fun e w' ⟨h1, h2⟩ => by subst h1; exact ⟨rfl, h2⟩))); focus (simp only [Act.put, pqA, pqS, pqZ]; try rfl))
    | (refine Chain.call (i := 17) (a' := ?_) _ rfl rfl rfl (fun wx hw => ?_) ?_ ?_; rotate_left 1; (focus (obtain ⟨g0, g1⟩ := HX.out _ (below_trans hb hw)); (go_simp; first | exact ⟨rfl, Below.refl _ _⟩ | exact Below.refl _ _)); focus (simp only [Act.put, pqA, pqS, pqZ]; try rfl))
    | (refine Chain.call (i := 23) (a' := ?_) _ rfl rfl rfl (fun wx hw => ?_) ?_ ?_; rotate_left 1; (focus (obtain ⟨g0, g1⟩ := HY.out _ (below_trans hb hw)); (go_simp; first | exact ⟨rfl, Below.refl _ _⟩ | exact Below.refl _ _)); focus (simp only [Act.put, pqA, pqS, pqZ]; try rfl))
    | (refine Chain.skip (a' := ?_) rfl rfl rfl ?_ ?_; rotate_left 1; focus (simp only [Act.put, pqA, pqS, pqZ]; try rfl)))
   refine Chain.end_ (fun wz hwz _ => ?_)
   have hb2 := below_trans hb hwz
   obtain ⟨g0, g1⟩ := HX.out _ hb2
   clear hb hwz
   go_wp2_with fail
   go_loopw [50] (fun i wy => ∃ j : Nat, j <= S.length /\ i = .int .i64 j /\ Below w.heap.size w wy) (fun i _ => S.length - (intOf i).toNat)
   case atStart => exact ⟨0, Nat.zero_le _, rfl, hb2⟩
   case round =>
    obtain ⟨j, hj, rfl, hb3⟩ := hrel
    clear g0 g1 hb2
    by_cases hgo2 : j < S.length
    ·obtain ⟨z, hz⟩ : ∃ z, S[j]? = some z := ⟨_, List.getElem?_eq_getElem hgo2⟩
     obtain ⟨sb, so, rfl, _⟩ := HS.out.at_ hz
     obtain ⟨sb', so', rfl, _⟩ := HS'.out.at_ hz
     have HZ := Lib.hid hz
     clear hz
     go_upto_region 11 with fail
     refine wp_region_known [(4, .slice (some ⟨sb, so, none⟩) S.length sc), (7, .agg #[.int .i64 z.1, .int .u64 (z.2 : Nat)]), (12, .slice (some ⟨sb', so', none⟩) S.length sc'), (15, .agg #[.int .i64 z.1, .int .u64 (z.2 : Nat)])] (by kernel_rfl) 72 (by kernel_rfl) rfl ?_
     repeat (first
      | (refine Chain.step (v := ?_) (a' := ?_) rfl rfl rfl ?_ ?_ ?_; rotate_left 2; (focus (intro w; go_simp; try with_reducible rfl)); focus (simp only [Act.put, pqA, pqS, pqZ]; try rfl))
      | (refine Chain.call (i := 4) (a' := ?_) _ rfl rfl rfl (fun wx hw => ?_) ?_ ?_; rotate_left 1; (focus (obtain ⟨g0, g1⟩ := HX.out _ (below_trans hb3 hw)); (go_simp; first | exact ⟨rfl, Below.refl _ _⟩ | exact Below.refl _ _)); focus (simp only [Act.put, pqA, pqS, pqZ]; try rfl))
      | (refine Chain.call (i := 7) (a' := ?_) _ rfl rfl rfl (fun wx hw => ?_) ?_ ?_; rotate_left 1; (focus (obtain ⟨g0, g1⟩ := (HS.out.below (below_trans hb3 hw)).at2 HZ.out); (go_simp; first | exact ⟨rfl, Below.refl _ _⟩ | exact Below.refl _ _)); focus (simp only [Act.put, pqA, pqS, pqZ]; try rfl))
      | (refine Chain.call (i := 12) (a' := ?_) _ rfl rfl rfl (fun wx hw => ?_) ?_ ?_; rotate_left 1; (focus (obtain ⟨g0, g1⟩ := HY.out _ (below_trans hb3 hw)); (go_simp; first | exact ⟨rfl, Below.refl _ _⟩ | exact Below.refl _ _)); focus (simp only [Act.put, pqA, pqS, pqZ]; try rfl))
      | (refine Chain.call (i := 15) (a' := ?_) _ rfl rfl rfl (fun wx hw => ?_) ?_ ?_; rotate_left 1; (focus (obtain ⟨g0, g1⟩ := (HS'.out.below (below_trans hb3 hw)).at2 HZ.out); (go_simp; first | exact ⟨rfl, Below.refl _ _⟩ | exact Below.refl _ _)); focus (simp only [Act.put, pqA, pqS, pqZ]; try rfl))
      | (refine Chain.skip (a' := ?_) rfl rfl rfl ?_ ?_; rotate_left 1; focus (simp only [Act.put, pqA, pqS, pqZ]; try rfl)))
     refine Chain.end_ (fun wz2 hwz2 _ => ?_)
     have hb4 := below_trans hb3 hwz2
     clear hb3 hwz2
     go_wp2_with fail
     go_roundw
     case rel => exact ⟨j + 1, by omega, by go_num, hb4⟩
     case measure => simp [intOf]; omega
    ·obtain rfl : j = S.length := by omega
     go_wp2_with fail
     go_roundw
     case rel => exact ⟨k + 1, by omega, by go_num, hb3⟩
     case measure => simp [intOf]; omega
  ·obtain rfl : k = n := by omega
   go_wp2_with fail
   go_ret
   exact ⟨rfl, hb⟩
end Go.Proofs.YtgabmfibfikdbaaGreatDoor
