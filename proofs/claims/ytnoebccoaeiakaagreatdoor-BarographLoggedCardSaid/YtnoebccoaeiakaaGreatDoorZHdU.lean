/-
  Layer 14: rows whose buffers are known by their types.
-/
import Derived.Test.YtnoebccoaeiakaaGreatDoorZLabG
import Derived.Test.YtnoebccoaeiakaaGreatDoorZLib24
import Derived.Test.YtnoebccoaeiakaaGreatDoorZMrgS
import Derived.Test.YtnoebccoaeiakaaGreatDoorZHdE
import Derived.Test.YtnoebccoaeiakaaGreatDoorZRws
import Derived.Test.YtnoebccoaeiakaaGreatDoorZLabD
import Derived.Test.YtnoebccoaeiakaaGreatDoorZLib5
import Derived.Test.YtnoebccoaeiakaaGreatDoorZLib22
import Derived.Deep.CutRange
import Derived.Deep.QuietTactic
import Derived.BigQuiet
import Derived.Test.YtnoebccoaeiakaaGreatDoorZHdB
import Derived.Test.YtnoebccoaeiakaaGreatDoorZLib12
import Derived.Deep.Cut
import Derived.Deep.CutBlock
import Derived.Test.YtnoebccoaeiakaaGreatDoorZLib4
import Derived.Test.YtnoebccoaeiakaaGreatDoorZLib2

namespace Go.Proofs.YtnoebccoaeiakaaGreatDoor
open Go.RowKit Go.Bar Go.Bar.Leb Go.Bar.Lab Go.Bar.Xor Go.Bar.Mrg
structure RwB (W w : World) (v : Value) (O : List Rv) : Prop where
  n : NBuf W w 124 2 v O.length (rcs O)
  d : ∀ x ∈ O, NBuf W w 155 2 (.slice x.la x.ls.length x.lc) x.ls.length (pcs x.ls) ∧ NBuf W w 98 2 (.slice x.sa x.ss.length x.sc) x.ss.length (smc x.ss)
section
variable {W w w' wa w2 : World} {v v2 : Value} {O : List Rv} {x : Rv}
theorem RwB.below (h : RwB W w v O) (hb : Below w.heap.size w w') : RwB W w' v O := ⟨h.n.then_below hb, fun x hx => ⟨(h.d x hx).1.then_below hb, (h.d x hx).2.then_below hb⟩⟩
theorem RwB.dtb (h : RwB W w v O) : DTb W W W w 124 155 v O := ⟨h.n, Below.refl _ _, fun x hx => ⟨.inr (h.d x hx).1, .inr (h.d x hx).2⟩⟩
theorem RwB.snoc (h : RwB W wa v O) (hl : NBuf W wa 155 2 (.slice x.la x.ls.length x.lc) x.ls.length (pcs x.ls)) (hs : NBuf W wa 98 2 (.slice x.sa x.ss.length x.sc) x.ss.length (smc x.ss)) (hn : NBuf W w2 124 2 v2 (O.length + 1) (rcs O ++ encR x)) (ha : Ap wa w2 2 v) : RwB W w2 v2 (O ++ [x]) := by
  have hk : Ke (fun U => U = 124) wa w2 := Ke.of_ap h.n.buf ha rfl
  refine ⟨?_, fun y hy => ?_⟩
  · rw [List.length_append, rcs_app]
    have e : rcs [x] = encR x := List.append_nil _
    rw [e]
    exact hn
  · rcases List.mem_append.1 hy with hy | hy
    · exact ⟨nbuf_ke (h.d y hy).1 hk hn.below (by decide), nbuf_ke (h.d y hy).2 hk hn.below (by decide)⟩
    · obtain rfl := List.mem_singleton.1 hy
      exact ⟨nbuf_ke hl hk hn.below (by decide), nbuf_ke hs hk hn.below (by decide)⟩
end
def RetRwB (w : World) (R : List Row) (e : Ending) (w' : World) : Prop := ∃ v t, e = .returned v ∧ RwB w w' v t ∧ t.map plR = R
theorem RwB.tb {W w : World} {v : Value} {O : List Rv} (h : RwB W w v O) : TbAt w v O := ⟨h.n.slice, fun x hx => ⟨(h.d x hx).1.slice, (h.d x hx).2.slice⟩⟩
structure RwT (W w : World) (v : Value) (O : List Rv) : Prop where
  n : NBuf W w 62 2 v O.length (rcs O)
  d : ∀ x ∈ O, NBuf W w 156 2 (.slice x.la x.ls.length x.lc) x.ls.length (pcs x.ls) ∧ Buf w 98 2 (.slice x.sa x.ss.length x.sc) x.ss.length (smc x.ss)
def RetRwT (w : World) (R : List Row) (e : Ending) (w' : World) : Prop := ∃ v t, e = .returned v ∧ RwT w w' v t ∧ t.map plR = R
section
variable {W w w' wa w2 : World} {v v2 : Value} {O : List Rv} {x : Rv}
theorem RwT.below (h : RwT W w v O) (hb : Below w.heap.size w w') : RwT W w' v O := ⟨h.n.then_below hb, fun x hx => ⟨(h.d x hx).1.then_below hb, (h.d x hx).2.below hb⟩⟩
theorem RwT.snoc (h : RwT W wa v O) (hl : NBuf W wa 156 2 (.slice x.la x.ls.length x.lc) x.ls.length (pcs x.ls)) (hs : Buf wa 98 2 (.slice x.sa x.ss.length x.sc) x.ss.length (smc x.ss)) (hn : NBuf W w2 62 2 v2 (O.length + 1) (rcs O ++ encR x)) (ha : Ap wa w2 2 v) : RwT W w2 v2 (O ++ [x]) := by
  have hk : Ke (fun U => U = 62) wa w2 := Ke.of_ap h.n.buf ha rfl
  refine ⟨?_, fun y hy => ?_⟩
  · rw [List.length_append, rcs_app]
    have e : rcs [x] = encR x := List.append_nil _
    rw [e]
    exact hn
  · rcases List.mem_append.1 hy with hy | hy
    · exact ⟨nbuf_ke (h.d y hy).1 hk hn.below (by decide), hk.buf (h.d y hy).2 (by decide)⟩
    · obtain rfl := List.mem_singleton.1 hy
      exact ⟨nbuf_ke hl hk hn.below (by decide), hk.buf hs (by decide)⟩
end
structure WtB (w : World) (v : Value) (O : List Rv) : Prop where
  n : Buf w 62 2 v O.length (rcs O)
  d : ∀ x ∈ O, Buf w 156 2 (.slice x.la x.ls.length x.lc) x.ls.length (pcs x.ls) ∧ Buf w 98 2 (.slice x.sa x.ss.length x.sc) x.ss.length (smc x.ss)
theorem RwT.wt {W w : World} {v : Value} {O : List Rv} (h : RwT W w v O) : WtB w v O := ⟨h.n.buf, fun x hx => ⟨(h.d x hx).1.buf, (h.d x hx).2⟩⟩
theorem WtB.tb {w : World} {v : Value} {O : List Rv} (h : WtB w v O) : TbAt w v O := ⟨SlAt.of_buf h.n, fun x hx => ⟨SlAt.of_buf (h.d x hx).1, SlAt.of_buf (h.d x hx).2⟩⟩
theorem WtB.below {w w' : World} {v : Value} {O : List Rv} (h : WtB w v O) (hb : Below w.heap.size w w') : WtB w' v O := ⟨h.n.below hb, fun x hx => ⟨(h.d x hx).1.below hb, (h.d x hx).2.below hb⟩⟩
end Go.Proofs.YtnoebccoaeiakaaGreatDoor

namespace Go.Proofs.YtnoebccoaeiakaaGreatDoor
open Go.RowKit Go.Bar Go.Bar.Leb Go.Bar.Lab Go.Bar.Xor Go.Bar.Mrg

def lab5 (n : Nat) : List Pr := match n % 5 with
  | 0 => [([97], [49])]
  | 1 => [([97], [49]), ([98], [50])]
  | 2 => [([97], [50])]
  | 3 => [([98], [49])]
  | _ => [([106, 111, 98], [120])]
def lab5t (j : Nat) : List UInt8 := match j with
  | 0 => [97, 61, 49]
  | 1 => [97, 61, 49, 44, 98, 61, 50]
  | 2 => [97, 61, 50]
  | 3 => [98, 61, 49]
  | _ => [106, 111, 98, 61, 120]
theorem lab5_parse (n : Nat) : parse (lab5t (n % 5)) = (lab5 n, 0) := by
  have h : n % 5 < 5 := Nat.mod_lt _ (by decide)
  unfold lab5
  generalize n % 5 = j at h
  rcases j with _ | _ | _ | _ | _ | j
  · decide
  · decide
  · decide
  · decide
  · decide
  · omega
def RetN14 (w : World) (T : TypeId) (l : List Pr) (e : Ending) (w' : World) : Prop := ∃ v, e = .returned v ∧ NBuf w w' T 2 v l.length (pcs l)

set_option maxHeartbeats 4000000 in
set_option maxRecDepth 10000 in
theorem labels_any (n : Nat) (w : World) : Calls Tryz.prog 33 #[.int .u8 (n : Nat)] w (RetN14 w 155 (lab5 n)) := by
  have hp := fun w => parse_any6 (lab5t (n % 5)) w (by
    have h : n % 5 < 5 := Nat.mod_lt _ (by decide)
    generalize n % 5 = j at h
    rcases j with _ | _ | _ | _ | _ | j <;> simp [lab5t])
  unfold RetPs at hp
  rw [lab5_parse] at hp
  obtain ⟨L, hL⟩ : ∃ L, L = lab5 n := ⟨_, rfl⟩
  rw [← hL] at hp ⊢
  clear hL
  have hm : (n : Int) % 5 = ((n % 5 : Nat) : Int) := by omega
  have h : n % 5 < 5 := Nat.mod_lt _ (by decide)
  generalize n % 5 = j at h hp hm
  have HP := Lib.hid hp
  clear hp
  rcases j with _ | _ | _ | _ | _ | j
  case succ.succ.succ.succ.succ => omega
  all_goals
    have hm2 : (n : Int) % 5 = _ := hm
    go_enter Tryz.func33, Tryz.ntmps33
    go_wp2_with fail
    refine (HP.out _).mono ?_
    rintro e w1 ⟨v, rfl, hn⟩
    have HN := Lib.hid hn
    clear hn
    go_wp2_with fail
    go_ret
    exact ⟨v, rfl, HN.out.after (below_alloc1 _ _)⟩

end Go.Proofs.YtnoebccoaeiakaaGreatDoor

namespace Go.Bar.Mrg
open Go.RowKit Go.Bar Go.Bar.Xor Go.Bar.Lab

structure On3 where
  nm : Nat
  t : Int
  v : Nat
def enc3 (x : On3) : List Value := [.int .u8 (x.nm : Nat), .int .i64 x.t, .int .u64 (x.v : Nat)]
theorem enc3_len (x : On3) : (enc3 x).length = 3 := rfl
def ocs (l : List On3) : List Value := l.flatMap enc3
def O3At (w : World) (v : Value) (l : List On3) : Prop := SlAt w 3 v l.length (ocs l)
theorem O3At.below {w w' : World} {v : Value} {l : List On3} (h : O3At w v l) (hb : Below w.heap.size w w') : O3At w' v l := SlAt.below h hb
theorem O3At.shape {w : World} {v : Value} {l : List On3} (h : O3At w v l) : ∃ A c, v = .slice A l.length c ∧ l.length ≤ c ∧ c ≤ maxLen := SlAt.shape h
theorem O3At.at_ {w : World} {A : Option Addr} {n c i : Nat} {l : List On3} {x : On3} (h : O3At w (.slice A n c) l) (hi : l[i]? = some x) : ∃ b o, A = some ⟨b, o, none⟩ ∧ w.cell? ⟨b, o + i * 3, none⟩ = some (.int .u8 (x.nm : Nat)) ∧ w.cell? ⟨b, o + i * 3 + 1, none⟩ = some (.int .i64 x.t) ∧ w.cell? ⟨b, o + i * 3 + 2, none⟩ = some (.int .u64 (x.v : Nat)) := by
  have hlt : i < l.length := (List.getElem?_eq_some_iff.1 hi).1
  obtain ⟨A', c', he, _⟩ := SlAt.shape h
  injection he with e1 e2 e3
  subst e1; subst e2; subst e3
  obtain ⟨b, o, rfl, hb, hc⟩ := SlAt.cells h (by omega)
  have g := flat_get enc3 3 enc3_len l i x hi
  have g0 := hc _ _ (g 0 (by omega))
  have g1 := hc _ _ (g 1 (by omega))
  have g2 := hc _ _ (g 2 (by omega))
  exact ⟨b, o, rfl, g0, (by rw [Nat.add_assoc]; exact g1), (by rw [Nat.add_assoc]; exact g2)⟩
end Go.Bar.Mrg
namespace Go.Proofs.YtnoebccoaeiakaaGreatDoor
open Go.RowKit Go.Bar Go.Bar.Leb Go.Bar.Lab Go.Bar.Xor Go.Bar.Mrg

end Go.Proofs.YtnoebccoaeiakaaGreatDoor

namespace Go.Bar.Mrg
open Go.RowKit Go.Bar Go.Bar.Xor Go.Bar.Lab

def GoodP (R : List Row) : Prop := Rls R ∧ ∀ r ∈ R, Ris r.2
theorem Tb.good {R : List Row} (h : Tb R) : GoodP R := ⟨h.rls, h.ris⟩
section
variable {α : Type} {lt : α → α → Prop} {l : List α} {k : Nat} {x y : α}
end
end Go.Bar.Mrg

namespace Go.Proofs.YtnoebccoaeiakaaGreatDoor
open Go.RowKit Go.Bar Go.Bar.Leb Go.Bar.Lab Go.Bar.Xor Go.Bar.Mrg

theorem inT_cases (a b : Int) (x : Sm) : (inT a b x = true ∧ a ≤ x.1 ∧ x.1 < b) ∨ (inT a b x = false ∧ x.1 < a) ∨ (inT a b x = false ∧ a ≤ x.1 ∧ b ≤ x.1) := by
  unfold inT
  by_cases h1 : a ≤ x.1
  · by_cases h2 : x.1 < b
    · exact .inl ⟨by rw [decide_eq_true h1, decide_eq_true h2]; rfl, h1, h2⟩
    · exact .inr (.inr ⟨by rw [decide_eq_false h2, Bool.and_false], h1, by omega⟩)
  · exact .inr (.inl ⟨by rw [decide_eq_false h1]; rfl, by omega⟩)
theorem filter_snoc {l : List Sm} {k : Nat} {x : Sm} (p : Sm → Bool) (h : l[k]? = some x) : (l.take (k + 1)).filter p = (l.take k).filter p ++ (if p x = true then [x] else []) := by
  rw [List.take_add_one, h, List.filter_append]
  congr 1
  simp only [Option.toList]
  rw [List.filter_cons, List.filter_nil]
theorem betw_take {R : List Row} {k : Nat} {r : Row} (a b : Int) (h : R[k]? = some r) : betw (R.take (k + 1)) a b = betw (R.take k) a b ++ (match cutR a b r with | none => [] | some x => [x]) := by
  unfold betw
  rw [List.take_add_one, h, List.filterMap_append]
  congr 1
  simp only [Option.toList, List.filterMap_cons, List.filterMap_nil]
  cases cutR a b r <;> rfl

end Go.Proofs.YtnoebccoaeiakaaGreatDoor

namespace Go.Proofs.YtnoebccoaeiakaaGreatDoor
open Go.RowKit Go.Bar Go.Bar.Leb Go.Bar.Lab Go.Bar.Xor Go.Bar.Mrg

set_option maxHeartbeats 8000000 in
set_option maxRecDepth 10000 in
theorem mbetweenO_any (v : Value) (t : List Rv) (a b : Int) (w : World) (h : TbAt w v t) (hl : t.length ≤ 1000000) (hp : ∀ x ∈ t, x.ls.length ≤ 1000000 ∧ x.ss.length ≤ 1000000) :
    Calls Tryz.prog 42 #[v, .int .i64 a, .int .i64 b] w (RetRwB w (betw (t.map plR) a b)) := by
  obtain ⟨A, c, rfl, hlc, hcm⟩ := h.shape
  unfold maxLen at hcm
  have HT := Lib.hid h
  have HP := Lib.hid hp
  have HN0 : Hid (RwB w w (.slice none 0 0) []) := Lib.hid ⟨NBuf.nil (Below.refl _ _) _ _, fun x hx => (by cases hx)⟩
  clear h hp
  go_enter Tryz.func42, Tryz.ntmps42
  go_wp2_with fail
  go_loopw [7, 15] (fun d i wr => ∃ (k : Nat) (O : List Rv), k ≤ t.length ∧ i = .int .i64 k ∧ O.length ≤ k ∧ Hid (RwB w wr d O) ∧ Hid (O.map plR = betw ((t.map plR).take k) a b)) (fun _ i _ => t.length - (intOf i).toNat)
  case atStart => exact ⟨0, [], Nat.zero_le _, rfl, Nat.le_refl _, HN0, Lib.hid rfl⟩
  case round =>
    obtain ⟨k, O, hk, rfl, hO, HNB, HRR⟩ := hrel
    obtain ⟨fA, fc, rfl, hfc⟩ := HNB.out.n.buf.shape
    have hbw := HNB.out.n.below
    clear HN0
    by_cases hgo : k < t.length
    · obtain ⟨x, hx⟩ : ∃ x, t[k]? = some x := ⟨_, List.getElem?_eq_getElem hgo⟩
      obtain ⟨xL, xS, la, lc, sa, sc⟩ := x
      obtain ⟨xb, xo, rfl, x0, x1, _⟩ := (HT.out.below hbw).at_ hx
      have HRX := Lib.hid (show PsAt w (.slice la xL.length lc) xL ∧ SmsAt w (.slice sa xS.length sc) xS from HT.out.2 _ (List.mem_of_getElem? hx))
      dsimp only at x0 x1
      have hrr := betw_take (R := t.map plR) (k := k) (r := (xL, xS)) a b (by rw [List.getElem?_map, hx]; rfl)
      rw [← HRR.out] at hrr
      have HR2 := Lib.hid hrr
      obtain ⟨hxl, hxs⟩ : xL.length ≤ 1000000 ∧ xS.length ≤ 1000000 := HP.out _ (List.mem_of_getElem? hx)
      obtain ⟨n, hn⟩ : ∃ n, n = O.length := ⟨_, rfl⟩
      have hnb : n ≤ 1000000 := by omega
      have HNN := Lib.hid hn
      have HNK := Lib.hid (show n ≤ k by omega)
      clear hrr hx HRR hn hO
      obtain ⟨wx, hwx⟩ : ∃ wx, wx = wr.alloc (.cells #[.slice la xL.length lc, .slice sa xS.length sc] 124) := ⟨_, rfl⟩
      have hbx : Below wr.heap.size wr wx := by rw [hwx]; exact below_alloc1 _ _
      have HXB : Hid (Blk wx wr.heap.size 124 #[.slice la xL.length lc, .slice sa xS.length sc]) := Lib.hid (by rw [hwx]; exact Blk.new _ _ _)
      have HNX := Lib.hid (HNB.out.below hbx)
      have hbWx := below_trans hbw hbx
      go_upto_region 5 with fail
      rw [← hwx]
      obtain ⟨X, hX⟩ : ∃ X, X = wr.heap.size := ⟨_, rfl⟩
      rw [← hX] at HXB ⊢
      rw [← HNN.out] at HNX ⊢
      obtain ⟨k0, k1⟩ := HXB.out.c2
      have HXN := Lib.hid (NBuf.nil (Below.refl wx.heap.size wx) 98 2)
      clear hwx hX HNB hbx
      go_wp2_with fail
      go_loopw [10, 22] (fun d i wz => ∃ (j : Nat) (P : List Sm), j ≤ xS.length ∧ P.length ≤ j ∧ i = .int .i64 j ∧ Hid (NBuf wx wz 98 2 d P.length (smc P)) ∧ Hid (P = (xS.take j).filter (inT a b))) (fun _ i _ => xS.length - (intOf i).toNat)
      case atStart => exact ⟨0, [], Nat.zero_le _, Nat.le_refl _, rfl, HXN, Lib.hid rfl⟩
      case round =>
        obtain ⟨j, P, hj, hPj, rfl, HJ, HPF⟩ := hrel
        obtain ⟨jA, jc, rfl, hjc⟩ := HJ.out.buf.shape
        clear HXN
        by_cases hgo2 : j < xS.length
        · obtain ⟨s, hs⟩ : ∃ s, xS[j]? = some s := ⟨_, List.getElem?_eq_getElem hgo2⟩
          obtain ⟨pb, po, rfl, hpb, g1, g2⟩ := (HRX.out.2.below (below_trans hbWx HJ.out.below)).at_ hs
          have hfs := filter_snoc (inT a b) hs
          rw [← HPF.out] at hfs
          have HFS := Lib.hid hfs
          have HN1 := Lib.hid (HJ.out.alloc (.cells #[.int .i64 s.1, .int .u64 (s.2 : Nat)] 98))
          clear hs hfs
          rcases inT_cases a b s with ⟨hi, h1, h2⟩ | ⟨hi, h1⟩ | ⟨hi, h1, h2⟩
          · have HI := Lib.hid hi
            have hd1 : decide (a ≤ s.1) = true := decide_eq_true h1
            have hd2 : decide (s.1 < b) = true := decide_eq_true h2
            clear hi
            go_wp2_with (at_builtin; refine wpList_append_nlit rfl (.tmp 36) (.tmp 38) 60 rfl sm_ty rfl HN1.out rfl (by simp) rfl (by simp [Value.oneCell']) (by simp only [maxLen]; omega) (by omega) ?_; intro v3 w3 hn3 _; have HN3 := Lib.hid hn3; clear hn3)
            go_roundw
            case rel => exact ⟨j + 1, P ++ [s], by omega, by simp; omega, by go_num, Lib.hid (by rw [List.length_append, smc_snoc]; exact HN3.out), Lib.hid (by rw [HFS.out, if_pos HI.out])⟩
            case measure => simp [intOf]; omega
          · have HI := Lib.hid (show ¬ inT a b s = true by rw [hi]; exact Bool.false_ne_true)
            have hd1 : decide (a ≤ s.1) = false := decide_eq_false (by omega)
            clear hi
            go_wp2_with fail
            go_roundw
            case rel => exact ⟨j + 1, P, by omega, by omega, by go_num, HN1, Lib.hid (by rw [HFS.out, if_neg HI.out, List.append_nil])⟩
            case measure => simp [intOf]; omega
          · have HI := Lib.hid (show ¬ inT a b s = true by rw [hi]; exact Bool.false_ne_true)
            have hd1 : decide (a ≤ s.1) = true := decide_eq_true h1
            have hd2 : decide (s.1 < b) = false := decide_eq_false (by omega)
            clear hi
            go_wp2_with fail
            go_roundw
            case rel => exact ⟨j + 1, P, by omega, by omega, by go_num, HN1, Lib.hid (by rw [HFS.out, if_neg HI.out, List.append_nil])⟩
            case measure => simp [intOf]; omega
        · obtain rfl : j = xS.length := by omega
          have hpf := HPF.out
          rw [List.take_length] at hpf
          have hrr := HR2.out
          unfold cutR at hrr
          dsimp only at hrr
          rw [← hpf] at hrr
          have HB2 := Lib.hid (below_trans hbWx HJ.out.below)
          clear hpf HPF HR2
          rcases P with _ | ⟨p0, P⟩
          · rw [if_pos rfl] at hrr
            have HR3 := Lib.hid hrr
            have HD := Lib.hid (HNX.out.below HJ.out.below)
            clear hrr
            go_wp2_with fail
            go_roundw
            case rel => exact ⟨k + 1, O, by omega, by go_num, by have := HNN.out; have := HNK.out; omega, HD, Lib.hid (by rw [HR3.out, List.append_nil])⟩
            case measure => simp [intOf]; omega
          · obtain ⟨P', hP'⟩ : ∃ P', P' = p0 :: P := ⟨_, rfl⟩
            have hpos : 0 < P'.length := by rw [hP']; simp
            rw [if_neg (by simp)] at hrr
            rw [← hP'] at hrr HJ hPj ⊢
            have HR3 := Lib.hid hrr
            have hcl := cloneSet_any (.slice la xL.length lc) xL wr (HRX.out.1.below HB2.out) hxl
            have HCL := Lib.hid hcl
            have hpi : (0 : Int) < (P'.length : Int) := by omega
            obtain ⟨q0, q1⟩ := (HXB.out.below HJ.out.below).c2
            clear hrr hcl hP'
            go_wp2_with fail
            refine HCL.out.mono ?_
            rintro e w6 ⟨v6, rfl, n6⟩
            obtain ⟨A6, c6, rfl, hc6⟩ := n6.buf.shape
            have HL6 := Lib.hid (n6.after HB2.out)
            have HS6 := Lib.hid ((HJ.out.after hbWx).then_below n6.below)
            have HD6 := Lib.hid (HNX.out.below (below_trans HJ.out.below n6.below))
            clear n6 HCL
            go_wp2_with (at_builtin; refine wpList_append_nlit rfl (.tmp 44) (.tmp 50) 54 rfl mrow_ty rfl HD6.out.n rfl (by simp) rfl (by simp [Value.oneCell']) (by simp only [maxLen]; have := HNN.out; omega) (by have := HNN.out; omega) ?_; intro v4 w4 hn4 ha4; have HD4 := Lib.hid (RwB.snoc (x := ⟨xL, P', A6, c6, jA, jc⟩) (HD6.out.below (below_alloc1 _ _)) (HL6.out.alloc _) (HS6.out.alloc _) hn4 ha4); clear hn4 ha4)
            go_roundw
            case rel => exact ⟨k + 1, _, by omega, by go_num, by have := HNN.out; have := HNK.out; simp; omega, HD4, Lib.hid (by rw [HR3.out, List.map_append]; rfl)⟩
            case measure => simp [intOf]; omega
    · obtain rfl : k = t.length := by omega
      have hrr := HRR.out
      rw [List.take_of_length_le (by rw [List.length_map]; exact Nat.le_refl _)] at hrr
      have HR2 := Lib.hid hrr
      clear hrr HRR
      go_wp2_with fail
      go_ret
      exact ⟨_, O, rfl, HNB.out, HR2.out⟩

set_option maxHeartbeats 8000000 in
set_option maxRecDepth 10000 in
theorem told14O_any (v : Value) (t : List Rv) (w : World) (h : TbAt w v t) (hsm : ∀ x ∈ t, Buf w 98 2 (.slice x.sa x.ss.length x.sc) x.ss.length (smc x.ss)) (hl : t.length ≤ 1000000) (hp : ∀ x ∈ t, x.ls.length ≤ 1000000) :
    Calls Tryz.prog 14 #[v] w (RetRwT w (t.map plR)) := by
  obtain ⟨A, c, rfl, hlc, hcm⟩ := h.shape
  unfold maxLen at hcm
  have HT := Lib.hid h
  have HP := Lib.hid hp
  have HSM := Lib.hid hsm
  have HN0 : Hid (RwT w (w.alloc (.cells #[] 62)) (.slice (some ⟨w.heap.size, 0, none⟩) 0 0) []) := Lib.hid ⟨NBuf.lit0 (Below.refl w.heap.size w) 62 2, fun x hx => by cases hx⟩
  clear h hp hsm
  go_enter Tryz.func14, Tryz.ntmps14
  go_wp2_with fail
  go_loopw [3, 9] (fun d i wr => ∃ (k : Nat) (O : List Rv), k ≤ t.length ∧ i = .int .i64 k ∧ O.length = k ∧ Hid (RwT w wr d O) ∧ Hid (O.map plR = (t.map plR).take k)) (fun _ i _ => t.length - (intOf i).toNat)
  case atStart => exact ⟨0, [], Nat.zero_le _, rfl, rfl, HN0, Lib.hid rfl⟩
  case round =>
    obtain ⟨k, O, hk, rfl, hO, HNB, HRR⟩ := hrel
    obtain ⟨fA, fc, rfl, hfc⟩ := HNB.out.n.buf.shape
    have hbw := HNB.out.n.below
    clear HN0
    by_cases hgo : k < t.length
    · obtain ⟨x, hx⟩ : ∃ x, t[k]? = some x := ⟨_, List.getElem?_eq_getElem hgo⟩
      obtain ⟨xb, xo, rfl, x0, x1, _⟩ := (HT.out.below hbw).at_ hx
      have hrr : O.map plR ++ [plR x] = (t.map plR).take (k + 1) := by
        rw [List.take_add_one, List.getElem?_map, hx, HRR.out]; rfl
      have HR2 := Lib.hid hrr
      have HRX := Lib.hid (HT.out.2 x (List.mem_of_getElem? hx))
      obtain ⟨n, hn⟩ : ∃ n, n = O.length := ⟨_, rfl⟩
      have HNK := Lib.hid (hn.trans hO)
      have hnb : n ≤ 1000000 := by have := HNK.out; omega
      have HNN := Lib.hid hn
      have HSX := Lib.hid (HSM.out x (List.mem_of_getElem? hx))
      have hxl := HP.out x (List.mem_of_getElem? hx)
      have htl := fun w' (hb : Below w.heap.size w w') => told_any6 (.slice x.la x.ls.length x.lc) x.ls w' (HRX.out.1.below hb) hxl
      have HTL := Lib.hid htl
      clear hrr hx HRR htl hO hn
      obtain ⟨wx, hwx⟩ : ∃ wx, wx = wr.alloc (.cells #[.slice x.la x.ls.length x.lc, .slice x.sa x.ss.length x.sc] 124) := ⟨_, rfl⟩
      have hbx : Below wr.heap.size wr wx := by rw [hwx]; exact below_alloc1 _ _
      have HXB : Hid (Blk wx wr.heap.size 124 #[.slice x.la x.ls.length x.lc, .slice x.sa x.ss.length x.sc]) := Lib.hid (by rw [hwx]; exact Blk.new _ _ _)
      have HNX := Lib.hid (HNB.out.below hbx)
      have hbWx := below_trans hbw hbx
      go_upto_region 5 with fail
      rw [← hwx]
      obtain ⟨X, hX⟩ : ∃ X, X = wr.heap.size := ⟨_, rfl⟩
      rw [← hX] at HXB ⊢
      rw [← HNN.out] at HNX ⊢
      clear hwx hX HNB hbx
      obtain ⟨k0, k1⟩ := HXB.out.c2
      go_region_law (first
        | (((rw [if_pos (by rfl)]); go_simp; go_at_call 34; refine (HTL.out _ hbWx.drew).mono ?_; rintro e w6 ⟨v6, rfl, n6⟩; obtain ⟨A6, c6, rfl, hc6⟩ := n6.buf.shape; have b6 : Below wx.heap.size wx w6 := below_trans (Below.refl _ _).drew n6.below; obtain ⟨q0, q1⟩ := (HXB.out.below b6).c2; dsimp only))
        | ((refine step_append_buf rfl (.tmp 13) (.tmp 20) 37 rfl rrow_ty rfl ((HNX.out.n.buf.below b6).alloc _) rfl ((Buf.lit w6 62 2 1 [.slice A6 x.ls.length c6, .slice x.sa x.ss.length x.sc] rfl (by decide)).src rrow_ty.slice (by simp [Value.oneCell'])) (by simp only [maxLen]; have := HNN.out; omega) (by have := HNN.out; omega) ?_; intro v2 w2 hb2 ha2 hg2; have HB8 := Lib.hid (And.intro hb2 (And.intro ha2 hg2)); clear hb2 ha2 hg2)))
      all_goals
        have hdx := HNX.out.below (below_trans b6 (below_alloc1 _ (.cells #[.slice A6 x.ls.length c6, .slice x.sa x.ss.length x.sc] 62)))
        have hd := RwT.snoc (x := ⟨x.ls, x.ss, A6, c6, x.sa, x.sc⟩) hdx ((n6.after hbWx.drew).alloc _) (HSX.out.below (below_trans hbWx (below_trans b6 (below_alloc1 _ _)))) (hdx.n.step HB8.out.1 HB8.out.2.1 HB8.out.2.2) HB8.out.2.1
        have HD := Lib.hid hd
        clear hd hdx n6 b6 q0 q1 k0 k1
        go_wp2_with fail
        go_roundw
        case rel => exact ⟨k + 1, _, by omega, by go_num, by rw [List.length_append, ← HNN.out, HNK.out]; rfl, HD, Lib.hid (by rw [List.map_append, ← HR2.out]; rfl)⟩
        case measure => simp [intOf]; omega
    · obtain rfl : k = t.length := by omega
      have hrr := HRR.out
      rw [List.take_of_length_le (by rw [List.length_map]; exact Nat.le_refl _)] at hrr
      have HR2 := Lib.hid hrr
      clear hrr HRR
      go_wp2_with fail
      go_ret
      exact ⟨_, O, rfl, HNB.out, HR2.out⟩

end Go.Proofs.YtnoebccoaeiakaaGreatDoor

namespace Go.Proofs.YtnoebccoaeiakaaGreatDoor
open Go.RowKit Go.Bar Go.Bar.Leb Go.Bar.Lab Go.Bar.Xor Go.Bar.Mrg Go.Bar.Hd
attribute [local go_sem] Oper.semAt_some
def FinRow (W : World) (O : List Rv) (L : List Pr) (ss : List Sm) (vs : Nat → Value) (w' : World) : Prop := ∃ x : Rv, x.ls = L ∧ x.ss = ss ∧ RwB W w' (vs 13) (O ++ [x])
def RetRw (w : World) (h : List Row) (e : Ending) (w' : World) : Prop := ∃ v t, e = .returned v ∧ DTb w w w w' 124 155 v t ∧ SelR h (t.map plR)
theorem selR_of {h : List Row} {t m : List Rv} (ht : t.map plR = h) (hg : (h.map (·.1)).Nodup) (hp : m.Perm t) (hs : m.Pairwise (fun x y => ¬ cmpL y.ls x.ls < 0)) : SelR h (m.map plR) := by
  have h1 : (m.map plR).Perm h := by rw [← ht]; exact hp.map plR
  refine ⟨h1, ?_⟩
  have h2 : (m.map (·.ls)).Nodup := by
    have h3 : ((m.map plR).map (·.1)).Perm (h.map (·.1)) := h1.map _
    have h4 := h3.nodup_iff.2 hg
    rw [List.map_map] at h4
    exact h4
  rw [List.pairwise_map]
  unfold List.Nodup at h2
  rw [List.pairwise_map] at h2
  refine (hs.and h2).imp (fun {x y} hxy => ?_)
  show cmpL x.ls y.ls < 0
  have e1 := cmpL_neg x.ls y.ls
  have e2 : cmpL x.ls y.ls ≠ 0 := fun e => hxy.2 (cmpL_zero.1 e)
  have e3 := hxy.1
  omega

set_option maxHeartbeats 4000000 in
set_option maxRecDepth 10000 in
theorem hrows_any (p H : Nat) (c : Cfg) (h : List Row) (g : Hg) (v : Value) (W : World) (k : HdAt Tryz.prog hty 3 W p H c h g) (hv : Buf W 3 1 v h.length (Go.Bar.Hd.ints h.length)) (hg : Gd h) (hb1 : h.length ≤ 100000) (hb3 : ∀ r ∈ h, r.2.length ≤ 1000000) :
    Calls Tryz.prog 43 #[.pointer (some ⟨p, 0, none⟩), v] W (RetRw W h) := by
  obtain ⟨A, cp, rfl, hlc⟩ := hv.shape
  obtain ⟨gR, gO, gI, gQ, glv, gsv, gn, gtp, gnx, gG, gZ⟩ := g
  have HK := Lib.hid k
  have HV := Lib.hid hv
  have HG := Lib.hid hg
  have HB3 := Lib.hid hb3
  have HN0 : Hid (RwB W W (.slice none 0 0) []) := Lib.hid ⟨NBuf.nil (Below.refl _ _) _ _, fun x hx => (by cases hx)⟩
  clear k hv hg hb3
  go_enter Tryz.func43, Tryz.ntmps43
  go_wp2_with fail
  go_loopw [11, 5] (fun i ov wr => ∃ (j : Nat) (O : List Rv), i = .int .i64 j ∧ j ≤ h.length ∧ Hid (RwB W wr ov O) ∧ Hid (O.map plR = h.take j) ∧ Hid (O.length = j)) (fun i _ _ => h.length - (intOf i).toNat)
  case atStart => exact ⟨0, [], rfl, Nat.zero_le _, HN0, Lib.hid rfl, Lib.hid rfl⟩
  case round =>
    clear HN0
    obtain ⟨j, O, rfl, hj, HB, HO, HJ⟩ := hrel
    obtain ⟨oA, oc, rfl, hoc⟩ := HB.out.n.buf.shape
    by_cases hgo : j < h.length
    · obtain ⟨⟨L, ss⟩, hr⟩ : ∃ r, h[j]? = some r := ⟨_, List.getElem?_eq_getElem hgo⟩
      have hbw := HB.out.n.below
      obtain ⟨b, o, rfl, hlt, hcell⟩ := (HV.out.below hbw).cell (by omega)
      have c0 := (hcell j (by omega)).trans (Go.Bar.Hd.ints_at hgo)
      have hsr := (HK.out.below hbw).sr j _ hr
      have hlk : (Instr.lookup 87 (.map (some gO)) (.int .i64 ((j : Int) + 1)) false).run Tryz.prog wr = .ok (.pointer (some ⟨gQ j, 0, none⟩)) wr := by
        have h2 := (HK.out.below hbw).of_.look mtyO ((j : Int) + 1) ⟨by omega, by omega⟩
        rw [ofF_at _ hgo] at h2
        exact h2
      have hd := (HK.out.below hbw).hd
      unfold hdC at hd
      have d4 : wr.cell? ⟨p, 4, none⟩ = some (.map (some gO)) := hd.cell (i := 4) rfl
      have hlb : Buf wr 155 2 (glv j) L.length (pcs L) := hsr.lab
      have hsm : Buf wr 98 2 (gsv j) ss.length (smc ss) := hsr.sms
      have hqb : Blk wr (gQ j) hty.sr #[glv j, gsv j, .int .i64 (lastT ss)] := hsr.blk
      obtain ⟨lA, lc, hlv, _⟩ := hlb.shape
      obtain ⟨sA, sc, hsv, _⟩ := hsm.shape
      rw [hlv] at hlb hqb
      rw [hsv] at hsm hqb
      obtain ⟨Q, hQ⟩ : ∃ Q, Q = gQ j := ⟨_, rfl⟩
      rw [← hQ] at hlk hqb
      have HLB := Lib.hid hlb
      have HSM := Lib.hid hsm
      have HQB := Lib.hid hqb
      have HR := Lib.hid hr
      have hsl := HB3.out _ (List.mem_of_getElem? hr)
      have hll : L.length ≤ 1000000 := by have := (HG.out.ok _ (List.mem_of_getElem? hr)).2.1; simp only at this; omega
      simp only at hsl
      have hci : (0 : Int) ≤ (j : Int) := by omega
      have hci2 : (j : Int) < h.length := by omega
      clear hlb hsm hqb hr hsr hlv hsv hQ hcell hlt hbw hd
      go_upto_region 6 with fail
      clear hlk d4 c0
      obtain ⟨wb, hwb⟩ : ∃ wb, wb = wr := ⟨_, rfl⟩
      rw [← hwb] at HB HLB HSM HQB ⊢
      clear hwb
      have hOl := HJ.out
      have HBW := Lib.hid HB.out.n.below
      obtain ⟨n, hn⟩ : ∃ n, n = O.length := ⟨_, rfl⟩
      have hnb : n ≤ 100000 := by omega
      have HN := Lib.hid hn
      rw [← hn] at HB ⊢
      clear hOl hn
      have hstT : ∀ k v w w', Below w.heap.size w w' → Dv.factOf ([(4, ((fun v => v = (.slice lA L.length lc)), noFact, 4)), (5, ((fun v => ∃ A c, v = .slice A L.length c), (fun v w' => NBuf W w' 155 2 v L.length (pcs L)), 13)), (9, ((fun v => v = (.slice sA ss.length sc)), noFact, 9)), (10, ((fun v => ∃ A c, v = .slice A ss.length c), (fun v w' => NBuf W w' 98 2 v ss.length (smc ss)), 13)), (12, ((fun v => ∃ B, v = .slice (some ⟨B, 0, none⟩) 1 1), (fun v w' => ∃ A c A' c', Buf w' 124 2 v 1 [.slice A L.length c, .slice A' ss.length c'] ∧ NBuf W w' 155 2 (.slice A L.length c) L.length (pcs L) ∧ NBuf W w' 98 2 (.slice A' ss.length c') ss.length (smc ss)), 13)), (13, ((fun v => ∃ A c, v = .slice A (n + 1) c), noFact, 13))] : List (Nat × Dv.Kp)) k v w → Dv.factOf ([(4, ((fun v => v = (.slice lA L.length lc)), noFact, 4)), (5, ((fun v => ∃ A c, v = .slice A L.length c), (fun v w' => NBuf W w' 155 2 v L.length (pcs L)), 13)), (9, ((fun v => v = (.slice sA ss.length sc)), noFact, 9)), (10, ((fun v => ∃ A c, v = .slice A ss.length c), (fun v w' => NBuf W w' 98 2 v ss.length (smc ss)), 13)), (12, ((fun v => ∃ B, v = .slice (some ⟨B, 0, none⟩) 1 1), (fun v w' => ∃ A c A' c', Buf w' 124 2 v 1 [.slice A L.length c, .slice A' ss.length c'] ∧ NBuf W w' 155 2 (.slice A L.length c) L.length (pcs L) ∧ NBuf W w' 98 2 (.slice A' ss.length c') ss.length (smc ss)), 13)), (13, ((fun v => ∃ A c, v = .slice A (n + 1) c), noFact, 13))] : List (Nat × Dv.Kp)) k v w' := Dv.fact_st (by
        simp only [List.forall_mem_cons, List.not_mem_nil, false_imp_iff, implies_true, and_true]
        refine ⟨?_, ?_, ?_, ?_, ?_, ?_⟩
        · exact fun _ _ _ _ _ => trivial
        · exact fun _ _ _ hb h => h.then_below hb
        · exact fun _ _ _ _ _ => trivial
        · exact fun _ _ _ hb h => h.then_below hb
        · exact fun _ _ _ hb h => by obtain ⟨A, c, A', c', h1, h2, h3⟩ := h; exact ⟨A, c, A', c', h1.below hb, h2.then_below hb, h3.then_below hb⟩
        · exact fun _ _ _ _ _ => trivial)
      have htrT : ∀ x ∈ ([(4, ((fun v => v = (.slice lA L.length lc)), noFact, 4)), (5, ((fun v => ∃ A c, v = .slice A L.length c), (fun v w' => NBuf W w' 155 2 v L.length (pcs L)), 13)), (9, ((fun v => v = (.slice sA ss.length sc)), noFact, 9)), (10, ((fun v => ∃ A c, v = .slice A ss.length c), (fun v w' => NBuf W w' 98 2 v ss.length (smc ss)), 13)), (12, ((fun v => ∃ B, v = .slice (some ⟨B, 0, none⟩) 1 1), (fun v w' => ∃ A c A' c', Buf w' 124 2 v 1 [.slice A L.length c, .slice A' ss.length c'] ∧ NBuf W w' 155 2 (.slice A L.length c) L.length (pcs L) ∧ NBuf W w' 98 2 (.slice A' ss.length c') ss.length (smc ss)), 13)), (13, ((fun v => ∃ A c, v = .slice A (n + 1) c), noFact, 13))] : List (Nat × Dv.Kp)), (([(4, ((fun v => v = (.slice lA L.length lc)), noFact, 4)), (5, ((fun v => ∃ A c, v = .slice A L.length c), (fun v w' => NBuf W w' 155 2 v L.length (pcs L)), 13)), (9, ((fun v => v = (.slice sA ss.length sc)), noFact, 9)), (10, ((fun v => ∃ A c, v = .slice A ss.length c), (fun v w' => NBuf W w' 98 2 v ss.length (smc ss)), 13)), (12, ((fun v => ∃ B, v = .slice (some ⟨B, 0, none⟩) 1 1), (fun v w' => ∃ A c A' c', Buf w' 124 2 v 1 [.slice A L.length c, .slice A' ss.length c'] ∧ NBuf W w' 155 2 (.slice A L.length c) L.length (pcs L) ∧ NBuf W w' 98 2 (.slice A' ss.length c') ss.length (smc ss)), 13)), (13, ((fun v => ∃ A c, v = .slice A (n + 1) c), noFact, 13))] : List (Nat × Dv.Kp)).lookup x.2.2.2).isSome = true := by
        simp only [List.forall_mem_cons, List.not_mem_nil, false_imp_iff, implies_true, and_true]
        exact ⟨by kernel_rfl, by kernel_rfl, by kernel_rfl, by kernel_rfl, by kernel_rfl, by kernel_rfl⟩
      refine Dv.wp_region_two (L := ([(4, ((fun v => v = (.slice lA L.length lc)), noFact, 4)), (5, ((fun v => ∃ A c, v = .slice A L.length c), (fun v w' => NBuf W w' 155 2 v L.length (pcs L)), 13)), (9, ((fun v => v = (.slice sA ss.length sc)), noFact, 9)), (10, ((fun v => ∃ A c, v = .slice A ss.length c), (fun v w' => NBuf W w' 98 2 v ss.length (smc ss)), 13)), (12, ((fun v => ∃ B, v = .slice (some ⟨B, 0, none⟩) 1 1), (fun v w' => ∃ A c A' c', Buf w' 124 2 v 1 [.slice A L.length c, .slice A' ss.length c'] ∧ NBuf W w' 155 2 (.slice A L.length c) L.length (pcs L) ∧ NBuf W w' 98 2 (.slice A' ss.length c') ss.length (smc ss)), 13)), (13, ((fun v => ∃ A c, v = .slice A (n + 1) c), noFact, 13))] : List (Nat × Dv.Kp))) (m := 13) (Fin := (FinRow W O L ss)) (by kernel_rfl) 39 (by kernel_rfl) rfl (by kernel_rfl) ?_ ?_ ?_
      · simp only [List.forall_mem_cons, List.not_mem_nil, false_imp_iff, implies_true, and_true]
        exact ⟨⟨_, rfl⟩, ⟨_, none, 0, rfl⟩, ⟨_, rfl⟩, ⟨_, none, 0, rfl⟩, ⟨_, 0, rfl⟩, ⟨_, none, 0, rfl⟩⟩
      · exact (fun vs vs' w' h hf => by unfold FinRow at hf ⊢; rw [← h 13 (by kernel_rfl) (by decide)]; exact hf)
      repeat (first
        | (refine Dv.Chain.step (v := ?_) (a' := ?_) rfl rfl rfl ?_ ?_ ?_; rotate_left 2; (focus (intro w; go_simp; try with_reducible rfl)); focus (simp only [Act.put, pqA, pqS, pqZ]; try rfl))
        | (refine Dv.XT.call (i := 4) (a' := ?_) _ _ rfl (by decide) hstT rfl rfl (fun wx hw hF => ?_) htrT ?_ ?_; rotate_left 1; (focus ((have y0 := (HQB.out.below hw).cell (i := 0) rfl; go_simp; first | exact ⟨rfl, rB⟩ | exact rB))); focus (simp only [Act.put, pqA, pqS, pqZ]; try rfl))
        | (refine Dv.XT.make (i := 5) _ _ _ rfl (by decide) hstT rfl rfl (fun wx hw hF => ?_) htrT (fun v5 hv5 a' ha => ?_); (focus (go_simp); (with_reducible refine (cloneSet_any _ L wx (ps_of (HLB.out.below hw)) hll).mono ?_); (rintro e w' ⟨v', rfl, hn⟩); (obtain ⟨A5, c5, rfl, _⟩ := hn.buf.shape); (exact ⟨⟨_, _, rfl⟩, hn.below, hn.after (below_trans HBW.out hw)⟩)); obtain ⟨A5, c5, rfl⟩ := hv5; simp only [Act.put, pqA, pqS, pqZ] at ha; subst ha)
        | (refine Dv.XT.call (i := 9) (a' := ?_) _ _ rfl (by decide) hstT rfl rfl (fun wx hw hF => ?_) htrT ?_ ?_; rotate_left 1; (focus ((have y0 := (HQB.out.below hw).cell (i := 1) rfl; go_simp; first | exact ⟨rfl, rB⟩ | exact rB))); focus (simp only [Act.put, pqA, pqS, pqZ]; try rfl))
        | (refine Dv.XT.make (i := 10) _ _ _ rfl (by decide) hstT rfl rfl (fun wx hw hF => ?_) htrT (fun v10 hv10 a' ha => ?_); (focus (go_simp); (with_reducible refine (sclone_any _ ss wx (sms_of (HSM.out.below hw)) hsl).mono ?_); (rintro e w' ⟨v', rfl, hn⟩); (obtain ⟨A10, c10, rfl, _⟩ := hn.buf.shape); (exact ⟨⟨_, _, rfl⟩, hn.below, hn.after (below_trans HBW.out hw)⟩)); obtain ⟨A10, c10, rfl⟩ := hv10; simp only [Act.put, pqA, pqS, pqZ] at ha; subst ha)
        | (refine Dv.XT.make (i := 12) _ _ _ rfl (by decide) hstT rfl rfl (fun wx hw hF => ?_) htrT (fun v12 hv12 a' ha => ?_); (focus (have f5 : (fun v w' => NBuf W w' 155 2 v L.length (pcs L) : Value → World → Prop) _ wx := hF 5 _ (by kernel_rfl) rfl (by kernel_rfl)); (have f10 : (fun v w' => NBuf W w' 98 2 v ss.length (smc ss) : Value → World → Prop) _ wx := hF 10 _ (by kernel_rfl) rfl (by kernel_rfl)); (have hnew := Buf.lit wx 124 2 1 [.slice A5 L.length c5, .slice A10 ss.length c10] rfl (by decide)); (have hba := below_alloc1 wx (.cells #[.slice A5 L.length c5, .slice A10 ss.length c10] 124)); (have hfk : ∃ A c A' c', Buf (wx.alloc (.cells #[.slice A5 L.length c5, .slice A10 ss.length c10] 124)) 124 2 (.slice (some ⟨wx.heap.size, 0, none⟩) 1 1) 1 [.slice A L.length c, .slice A' ss.length c'] ∧ NBuf W (wx.alloc (.cells #[.slice A5 L.length c5, .slice A10 ss.length c10] 124)) 155 2 (.slice A L.length c) L.length (pcs L) ∧ NBuf W (wx.alloc (.cells #[.slice A5 L.length c5, .slice A10 ss.length c10] 124)) 98 2 (.slice A' ss.length c') ss.length (smc ss) := ⟨_, _, _, _, hnew, f5.alloc _, f10.alloc _⟩); (have HFK := Lib.hid hfk); (have HBA := Lib.hid hba); (clear hfk hba hnew); (go_simp); (first | exact ⟨⟨_, rfl⟩, HBA.out, HFK.out⟩ | exact ⟨HBA.out, HFK.out⟩ | exact HFK.out)); obtain ⟨B12, rfl⟩ := hv12; simp only [Act.put, pqA, pqS, pqZ] at ha; subst ha)
        | (refine Dv.XT.last (i := 13) _ _ _ rfl rfl (by kernel_rfl) rfl rfl (fun vs wx hw hF => ?_) (fun v13 hv13 a' ha => ?_); (focus (have f12 : (fun v w' => ∃ A c A' c', Buf w' 124 2 v 1 [.slice A L.length c, .slice A' ss.length c'] ∧ NBuf W w' 155 2 (.slice A L.length c) L.length (pcs L) ∧ NBuf W w' 98 2 (.slice A' ss.length c') ss.length (smc ss) : Value → World → Prop) _ wx := (hF 12 _ (by kernel_rfl) rfl).1 (by kernel_rfl)); (have q12 := (hF 12 _ (by kernel_rfl) rfl).2); (obtain ⟨A, c, A', c', h1, h2, h3⟩ := f12); (have hbx := HB.out.below hw); (have hbn := hbx.n); (rw [← HN.out] at hbn); (refine oper_append_buf _ _ _ rfl mrow_ty rfl hbn.buf rfl (h1.src mrow_ty.slice (by intro u hu; simp at hu; rcases hu with rfl | rfl <;> rfl)) (by simp only [maxLen]; omega) (by omega) ?_); (intro v' w' hb ha hg); (have hst := hbn.step hb ha hg); (obtain ⟨A13, c13, rfl, _⟩ := hb.shape); (exact ⟨_, rfl, ⟨_, _, rfl⟩, ⟨L, ss, A, c, A', c'⟩, rfl, rfl, hbx.snoc h2 h3 (by rw [← HN.out]; exact hst) ha⟩)); obtain ⟨A13, c13, rfl⟩ := hv13; simp only [Act.put, pqA, pqS, pqZ] at ha; subst ha)
        | (refine Dv.Chain.skip' (a' := ?_) rfl rfl rfl ?_ ?_; rotate_left 1; focus (simp only [Act.put, pqA, pqS, pqZ]; try rfl)))
      refine Dv.XT.end_ (by decide) (fun vs w7 hv hfin => ?_)
      have hv13 := hv 13 _ rfl
      unfold FinRow at hfin
      rw [hv13] at hfin
      obtain ⟨x, hx1, hx2, hx3⟩ := hfin
      have HB7 := Lib.hid hx3
      have HO7 : Hid ((O ++ [x]).map plR = h.take (j + 1)) := Lib.hid (by
        rw [List.map_append, HO.out, List.take_add_one, HR.out]
        show _ ++ [(x.ls, x.ss)] = _
        rw [hx1, hx2]
        rfl)
      have HJ7 : Hid ((O ++ [x]).length = j + 1) := Lib.hid (by rw [List.length_append, HJ.out]; rfl)
      clear hv hv13 hx1 hx2 hx3 HB HO HLB HSM HQB HR
      go_wp2_with fail
      go_roundw
      case rel => exact ⟨j + 1, O ++ [x], by go_num, by omega, HB7, HO7, HJ7⟩
      case measure => simp [intOf]; omega
    · obtain rfl : j = h.length := by omega
      have ho := HO.out
      rw [List.take_length] at ho
      rcases Nat.eq_zero_or_pos h.length with h0 | h0
      · have hO : O = [] := List.eq_nil_of_length_eq_zero (by rw [HJ.out, h0])
        subst hO
        have hhn : h = [] := List.eq_nil_of_length_eq_zero h0
        have HHN := Lib.hid hhn
        have hs := Lib.hid (sortNoneR_any oA oc wr)
        have HBZ := HB
        have hlt : ¬ (h.length : Int) < (h.length : Int) := by omega
        clear ho h0 hhn HO HJ
        go_wp2_with (go_at_call 69; refine hs.out.mono ?_; rintro e w9 ⟨rfl, rfl⟩)
        go_ret
        exact ⟨_, [], rfl, HBZ.out.dtb, by rw [HHN.out]; exact ⟨List.Perm.refl _, List.Pairwise.nil⟩⟩
      · have hOp : 0 < O.length := by rw [HJ.out]; exact h0
        obtain ⟨b, o, hA, _⟩ := HB.out.n.buf.some_at hOp
        subst hA
        have hs := Lib.hid (sortRows_any b o oc O W wr HB.out.dtb hOp (by rw [HJ.out]; omega) HB.out.d)
        have HSE := Lib.hid (fun m h1 h2 => selR_of (t := O) (m := m) ho HG.out.nd h1 h2)
        clear ho h0 hOp HO
        go_wp2_with (go_at_call 69; refine hs.out.mono ?_; rintro e w9 ⟨rfl, m, hm1, hm2, hm3⟩; have HM3 := Lib.hid hm3; have HS2 := Lib.hid (HSE.out m hm1 hm2); clear hm1 hm2 hm3)
        go_ret
        exact ⟨_, m, rfl, HM3.out, HS2.out⟩

theorem msel_any (I H m : Nat) (O : Nat → Prop) (le : List UInt8 → Int) (G : IxG) (w : World) (h : IxAt Tryz.prog hty w I H O m le G) (hm : m ≤ 1000000) :
    Calls Tryz.prog 44 #[.pointer (some ⟨I, 0, none⟩), .slice none 0 0] w fun e w' => ∃ v', e = .returned v' ∧ NBuf w w' 3 1 v' m (Go.Bar.Hd.ints m) := by
  have hc := Lib.hid (pall_any I H m O le G w h hm)
  clear h
  go_enter Tryz.func44, Tryz.ntmps44
  go_wp2_with fail
  refine hc.out.mono ?_
  rintro e w1 ⟨v1, rfl, hn⟩
  have HN := Lib.hid hn
  clear hn hc
  go_wp2_with fail
  go_loopw [16, 5] (fun i ov wr => i = .int .i64 0 ∧ ov = v1 ∧ w1 = wr) (fun _ _ _ => 0)
  case atStart => exact ⟨rfl, rfl, rfl⟩
  case round =>
    obtain ⟨rfl, rfl, rfl⟩ := hrel
    go_wp2_with fail
    go_ret
    exact ⟨_, rfl, HN.out⟩

theorem RwB.after {W W1 w : World} {v : Value} {O : List Rv} (h : RwB W w v O) (hb : Below W1.heap.size W1 W) : RwB W1 w v O := ⟨h.n.after hb, fun x hx => ⟨(h.d x hx).1.after hb, (h.d x hx).2.after hb⟩⟩
def RetSel (w : World) (h : List Row) (e : Ending) (w' : World) : Prop := ∃ v t, e = .returned v ∧ RwB w w' v t ∧ SelR h (t.map plR)

set_option maxHeartbeats 4000000 in
set_option maxRecDepth 10000 in
theorem hselect_any (p H : Nat) (c : Cfg) (h : List Row) (g : Hg) (w : World) (k : HdAt Tryz.prog hty 3 w p H c h g) (hg : Gd h) (hb1 : h.length ≤ 100000) (hb3 : ∀ r ∈ h, r.2.length ≤ 1000000) :
    Calls Tryz.prog 15 #[.pointer (some ⟨p, 0, none⟩), .int .i64 0, .int .i64 1099511627776, .slice none 0 0] w (RetSel w h) := by
  have hms := Lib.hid (msel_any g.I H h.length _ _ g.G w k.ix (by omega))
  have hrw := Lib.hid (fun wx v (hb : Below w.heap.size w wx) (hv : Buf wx 3 1 v h.length (Go.Bar.Hd.ints h.length)) => hrows_any p H c h g v wx (k.below hb) hv hg hb1 hb3)
  have hd := k.hd
  unfold hdC at hd
  have c5 : w.cell? ⟨p, 5, none⟩ = some (.pointer (some ⟨g.I, 0, none⟩)) := hd.cell (i := 5) rfl
  have hbt := Lib.hid (fun wx v t (ht : TbAt wx v t) (hs : SelR h (t.map plR)) => mbetweenO_any v t 0 1099511627776 wx ht (by have := hs.1.length_eq; rw [List.length_map] at this; omega) (fun x hx => by
    have hm := hs.1.mem_iff.1 (List.mem_map.2 ⟨x, hx, rfl⟩)
    have h1 := (hg.ok _ hm).2.1
    have h2 := hb3 _ hm
    unfold plR at h1 h2
    simp only at h1 h2
    omega))
  have hin := Lib.hid (fun R (hs : SelR h R) => hs.in_ hg)
  clear k hg hb3 hd
  go_enter Tryz.func15, Tryz.ntmps15
  go_wp2_with (first
    | (go_at_call 44; refine hms.out.mono ?_; rintro e w1 ⟨v1, rfl, n1⟩; obtain ⟨A1, cc1, rfl, _⟩ := n1.buf.shape)
    | (go_at_call 43; refine (hrw.out w1 _ n1.below n1.buf).mono ?_; rintro e w2 ⟨v2, t2, rfl, d2, s2⟩; obtain ⟨A2, cc2, rfl, _⟩ := d2.n.buf.shape; have HD2 := Lib.hid d2; have HS2 := Lib.hid s2; clear d2 s2)
    | (go_at_call 42; refine (hbt.out w2 _ t2 ⟨HD2.out.n.slice, fun x hx => (HD2.out.d x hx).rat HD2.out.n.below⟩ HS2.out).mono ?_; rintro e w3 ⟨v3, t3, rfl, d3, hR⟩; obtain ⟨A3, cc3, rfl, _⟩ := d3.n.buf.shape; have HD3 := Lib.hid d3; have HR := Lib.hid hR; clear d3 hR))
  go_ret
  have hb := below_trans n1.below HD2.out.n.below
  have hR := HR.out
  rw [hin.out _ HS2.out] at hR
  exact ⟨_, t3, rfl, HD3.out.after hb, by rw [hR]; exact HS2.out⟩
end Go.Proofs.YtnoebccoaeiakaaGreatDoor

namespace Go.Bar
open Go.RowKit Go.ChangeShapes Go.WideShapes Go.Deep

section
variable {H : Type} {enc : TypeId × Value → H} {P : Program} {w : World} {base : Nat} {spare : Nat → Bool} {held : Bool}
theorem open_fields_raw {t e : TypeId} {fs : Array Field} {x : Value} {y : DataW H × List MemPlace} {fuel : Nat} (ht : P.underlying t = some (.slice e)) (he : P.underlying e = some (.struct fs))
    (hone : oneCellFields P fs = true) (hC : P.cellsOf e = fs.size) (hpos : 0 < fs.size) (hf : DataW.trod enc P w base spare held fuel t [x] = some y) :
    ∃ (A : Option Addr) (n c : Nat), x = .slice A n c ∧ n ≤ c ∧ c ≤ maxLen ∧ (0 < n → ∃ b o, A = some ⟨b, o, none⟩ ∧ b < w.heap.size ∧
      ∀ i, i < n → ∀ (j : Nat) (f : Field), fs[j]? = some f → ∃ (x : Value) (y : DataW H × List MemPlace) (k : Nat), w.cell? ⟨b, o + (i * fs.size + j), none⟩ = some x ∧ DataW.trod enc P w base spare held k f.type [x] = some y) := by
  rcases open_slice ht hf with ⟨hcs, _⟩ | ⟨a, len, cap, m, n, D, Pl, hcs, _, hlc, hcm, hm, _, hi⟩
  · simp only [List.cons.injEq, and_true] at hcs
    subst hcs
    exact ⟨none, 0, 0, rfl, Nat.le_refl _, by decide, fun h => absurd h (Nat.lt_irrefl _)⟩
  · simp only [List.cons.injEq, and_true] at hcs
    subst hcs
    refine ⟨some a, len, cap, rfl, hlc, hcm, fun h0 => ?_⟩
    obtain ⟨b, o, spot⟩ := a
    have hread : ∀ i, i < len → ∀ (j : Nat) (f : Field), fs[j]? = some f → ∃ (x : Value) (y : DataW H × List MemPlace) (k : Nat), w.cell? ((Addr.add ⟨b, o, spot⟩ (i * fs.size)).add j) = some x ∧ DataW.trod enc P w base spare held k f.type [x] = some y := by
      intro i hil j f hj
      obtain ⟨cs, hc, hr⟩ := hi i (by rw [hm]; split <;> omega)
      rw [hC] at hc
      obtain ⟨_, hcl, hat⟩ := World.cells?_some hc
      obtain ⟨ys, k, _, _, _, hyl, hg⟩ := DataW.trod_struct he hr
      obtain ⟨ho, hk⟩ := hone_of hone j f hj
      have hjl : j < fs.size := (Array.getElem?_eq_some_iff.1 hj).1
      have h1 := hg j f hj
      rw [ho, hk] at h1
      have hone' : (cs.drop j).take 1 = [cs[j]'(by omega)] := by
        rw [List.drop_eq_getElem_cons (by omega)]
        rfl
      rw [hone'] at h1
      exact ⟨_, _, k, (hat j hjl).trans (List.getElem?_eq_getElem (by omega)), h1.trans (List.getElem?_eq_getElem (by omega))⟩
    have hspot : spot = none := by
      obtain ⟨x, y, k, hat, _⟩ := hread 0 h0 0 _ (Array.getElem?_eq_getElem hpos)
      rw [Nat.zero_mul, show ((Addr.add ⟨b, o, spot⟩ 0).add 0) = (⟨b, o, spot⟩ : Addr) by simp [Addr.add]] at hat
      exact World.cell?_spot hat
    subst hspot
    have hlt : b < w.heap.size := by
      obtain ⟨x, y, k, hat, _⟩ := hread 0 h0 0 _ (Array.getElem?_eq_getElem hpos)
      rw [addr_add, addr_add] at hat
      exact World.block_lt_of_cell? _ _ hat
    refine ⟨b, o, rfl, hlt, fun i hil j f hj => ?_⟩
    obtain ⟨x, y, k, hat, hr⟩ := hread i hil j f hj
    rw [addr_add, addr_add, Nat.add_assoc] at hat
    exact ⟨x, y, k, hat, hr⟩
theorem open_ones_raw {t e : TypeId} {x : Value} {y : DataW H × List MemPlace} {fuel : Nat} (ht : P.underlying t = some (.slice e)) (hC : P.cellsOf e = 1) (hf : DataW.trod enc P w base spare held fuel t [x] = some y) :
    ∃ (A : Option Addr) (n c : Nat), x = .slice A n c ∧ n ≤ c ∧ c ≤ maxLen ∧ (0 < n → ∃ b o, A = some ⟨b, o, none⟩ ∧ b < w.heap.size ∧
      ∀ i, i < n → ∃ (x : Value) (y : DataW H × List MemPlace) (k : Nat), w.cell? ⟨b, o + i, none⟩ = some x ∧ DataW.trod enc P w base spare held k e [x] = some y) := by
  rcases open_slice ht hf with ⟨hcs, _⟩ | ⟨a, len, cap, m, n, D, Pl, hcs, _, hlc, hcm, hm, _, hi⟩
  · simp only [List.cons.injEq, and_true] at hcs
    subst hcs
    exact ⟨none, 0, 0, rfl, Nat.le_refl _, by decide, fun h => absurd h (Nat.lt_irrefl _)⟩
  · simp only [List.cons.injEq, and_true] at hcs
    subst hcs
    refine ⟨some a, len, cap, rfl, hlc, hcm, fun h0 => ?_⟩
    obtain ⟨b, o, spot⟩ := a
    have hread : ∀ i, i < len → ∃ (x : Value) (y : DataW H × List MemPlace) (k : Nat), w.cell? (Addr.add ⟨b, o, spot⟩ i) = some x ∧ DataW.trod enc P w base spare held k e [x] = some y := by
      intro i hil
      obtain ⟨cs, hc, hr⟩ := hi i (by rw [hm]; split <;> omega)
      rw [hC, Nat.mul_one] at hc
      obtain ⟨_, hcl, hat⟩ := World.cells?_some hc
      match cs, hcl with
      | [c0], _ =>
        have := hat 0 (by omega)
        rw [show (Addr.add ⟨b, o, spot⟩ i).add 0 = Addr.add ⟨b, o, spot⟩ i by simp [Addr.add]] at this
        exact ⟨c0, _, _, this, hr⟩
    have hspot : spot = none := by
      obtain ⟨x, y, k, hat, _⟩ := hread 0 h0
      rw [show (Addr.add ⟨b, o, spot⟩ 0) = (⟨b, o, spot⟩ : Addr) by simp [Addr.add]] at hat
      exact World.cell?_spot hat
    subst hspot
    have hlt : b < w.heap.size := by
      obtain ⟨x, y, k, hat, _⟩ := hread 0 h0
      rw [addr_add] at hat
      exact World.block_lt_of_cell? _ _ hat
    refine ⟨b, o, rfl, hlt, fun i hil => ?_⟩
    obtain ⟨x, y, k, hat, hr⟩ := hread i hil
    rw [addr_add] at hat
    exact ⟨x, y, k, hat, hr⟩
end
end Go.Bar

namespace Go.Proofs.YtnoebccoaeiakaaGreatDoor
open Go.RowKit Go.Bar Go.Bar.Leb Go.Bar.Lab Go.Bar.Xor Go.Bar.Mrg Go.ChangeShapes Go.WideShapes Go.ChangeAt

section
variable {H : Type} {enc : TypeId × Value → H} {W : World} {base : Nat} {spare : Nat → Bool} {held : Bool}
def On3Ok (x : On3) : Prop := x.nm < 256 ∧ (-9223372036854775808 ≤ x.t ∧ x.t ≤ 9223372036854775807) ∧ x.v < 18446744073709551616
theorem open_ones14 {x : Value} {y : DataW H × List MemPlace} {fuel : Nat} (h : DataW.trod enc Tryz.prog W base spare held fuel 42 [x] = some y) : ∃ l, O3At W x l ∧ ∀ z ∈ l, On3Ok z := by
  obtain ⟨A, n, c, rfl, hnc, hcm, hx⟩ := open_fields_raw Tryz.underlying42 Tryz.underlying96 (by kernel_rfl) (by kernel_rfl) (Nat.zero_lt_succ 2 : 0 < 3) h
  rcases Nat.eq_zero_or_pos n with h0 | h0
  · subst h0
    exact ⟨[], ⟨rfl, A, c, rfl, hnc, hcm, fun h => absurd h (by simp)⟩, by simp⟩
  · obtain ⟨b, o, rfl, hb, hf⟩ := hx h0
    obtain ⟨rs, hl, ht⟩ := list_of (fun i (x : On3) => (∀ j u, (enc3 x)[j]? = some u → W.cell? ⟨b, o + (i * 3 + j), none⟩ = some u) ∧ On3Ok x) n (fun i hi => by
      obtain ⟨x0, y0, k0, c0, t0⟩ := hf i hi 0 _ rfl
      obtain ⟨x1, y1, k1, c1, t1⟩ := hf i hi 1 _ rfl
      obtain ⟨x2, y2, k2, c2, t2⟩ := hf i hi 2 _ rfl
      obtain ⟨n0, e0, _, w0⟩ := DataW.trod_int Tryz.underlying5 t0
      obtain ⟨n1, e1, _, w1⟩ := DataW.trod_int Tryz.underlying2 t1
      obtain ⟨n2, e2, _, w2⟩ := DataW.trod_int Tryz.underlying68 t2
      replace e0 : x0 = _ := (List.cons.inj e0).1
      replace e1 : x1 = _ := (List.cons.inj e1).1
      replace e2 : x2 = _ := (List.cons.inj e2).1
      subst e0; subst e1; subst e2
      have w0 := bounds_u8 w0
      have w2 := bounds_u64 w2
      refine ⟨⟨n0.toNat, n1, n2.toNat⟩, fun j u hu => ?_, by show n0.toNat < 256; omega, bounds_i64 w1, by show n2.toNat < 18446744073709551616; omega⟩
      match j, hu with
      | 0, hu => simp [enc3] at hu; subst hu; rw [Int.max_eq_left w0.1]; exact c0
      | 1, hu => simp [enc3] at hu; subst hu; exact c1
      | 2, hu => simp [enc3] at hu; subst hu; rw [Int.max_eq_left w2.1]; exact c2
      | j + 3, hu => simp [enc3] at hu)
    refine ⟨rs, ⟨flat_length enc3 3 enc3_len rs, some ⟨b, o, none⟩, c, by rw [hl], by rw [hl]; exact hnc, hcm, fun _ => ⟨b, o, rfl, hb, fun j hj => ?_⟩⟩, fun z hz => by obtain ⟨i, hi⟩ := List.mem_iff_getElem?.1 hz; exact (ht i z hi).2⟩
    have hlt : j / 3 < rs.length := by omega
    have hg := List.getElem?_eq_getElem hlt
    have h1 := flat_get enc3 3 enc3_len rs (j / 3) _ hg (j % 3) (by omega)
    rw [show j / 3 * 3 + j % 3 = j by omega] at h1
    have hm5 : j % 3 < (enc3 rs[j / 3]).length := by rw [enc3_len]; exact Nat.mod_lt _ (by omega)
    obtain ⟨u, hu⟩ : ∃ u, (enc3 rs[j / 3])[j % 3]? = some u := ⟨_, List.getElem?_eq_getElem hm5⟩
    have h2 := (ht (j / 3) _ hg).1 (j % 3) u hu
    rw [show j / 3 * 3 + j % 3 = j by omega] at h2
    rw [h2]
    exact (h1.trans hu).symm
end
def O3Arg (W : World) (v : Value) (l : List On3) : Prop := O3At W v l ∧ ∀ z ∈ l, On3Ok z

end Go.Proofs.YtnoebccoaeiakaaGreatDoor
