/-
  Layer 4 (disk): Crash: plain: file by file: no program in sight; no condition.
-/
import Derived.Test.YtcopknopifbebaaGreatDoorZWalU
import Derived.Test.YtcopknopifbebaaGreatDoorZShelf
import Derived.Test.YtcopknopifbebaaGreatDoorZWalEB
import Derived.Test.YtcopknopifbebaaGreatDoorZLib24
import Derived.Test.YtcopknopifbebaaGreatDoorZLib26

namespace Go.Bar.Wal
open Go.RowKit Go.Bar

def nLoose : Fs → Nat
  | [] => 0
  | (_, f) :: r => (if f.s.length - f.sure = 0 then 0 else 1) + nLoose r
theorem nLoose_le : ∀ (fs : Fs), nLoose fs ≤ fs.length
  | [] => Nat.le_refl _
  | (_, f) :: r => by
    have := nLoose_le r
    rw [nLoose, List.length_cons]
    split <;> omega
theorem nLoose_append : ∀ (a b : Fs), nLoose (a ++ b) = nLoose a + nLoose b
  | [], b => (Nat.zero_add _).symm
  | (_, f) :: r, b => by
    rw [List.cons_append, nLoose, nLoose_append r b, nLoose, Nat.add_assoc]
theorem drop_tail {α : Type} (l : List α) (n : Nat) : l.tail.drop n = l.drop (n + 1) := by
  cases l with
  | nil => simp
  | cons a l => rfl
theorem crashF_append : ∀ (a b : Fs) (cs : List Int), crashF (a ++ b) cs = crashF a cs ++ crashF b (cs.drop (nLoose a))
  | [], b, cs => rfl
  | (n, f) :: r, b, cs => by
    rw [List.cons_append, crashF, crashF, nLoose]
    by_cases h : f.s.length - f.sure = 0
    · rw [if_pos h, if_pos h, if_pos h, crashF_append r b cs, Nat.zero_add]; rfl
    · rw [if_neg h, if_neg h, if_neg h, crashF_append r b cs.tail, drop_tail, Nat.add_comm 1]; rfl
theorem lost_append : ∀ (a b : Fs) (cs : List Int), lost (a ++ b) cs = lost a cs + lost b (cs.drop (nLoose a))
  | [], b, cs => (Nat.zero_add _).symm
  | (n, f) :: r, b, cs => by
    rw [List.cons_append, lost, lost, nLoose]
    by_cases h : f.s.length - f.sure = 0
    · rw [if_pos h, if_pos h, if_pos h, lost_append r b cs, Nat.zero_add]
    · rw [if_neg h, if_neg h, if_neg h, lost_append r b cs.tail, drop_tail, Nat.add_comm 1, Nat.add_assoc]
theorem keep_le (l : Nat) (c : Option Int) : keepOf l c ≤ l := by
  unfold keepOf
  cases c with
  | none => exact Nat.zero_le _
  | some z =>
    simp only
    have h1 := Int.tmod_lt_of_pos (z.tmod (l + 1) + l + 1) (show (0 : Int) < l + 1 by omega)
    omega
theorem put_mid : ∀ (a : Fs) (n : Nm) (f g : Fi) (q : Fs), Srt (a ++ (n, f) :: q) → fput (a ++ (n, f) :: q) n g = a ++ (n, g) :: q
  | [], n, f, g, q, _ => by
    show (if n = n then _ else _) = _
    rw [if_pos rfl]; rfl
  | (m, e) :: a, n, f, g, q, h => by
    obtain ⟨h1, h2⟩ := List.pairwise_cons.1 h
    have hm : m < n := h1 (n, f) (by simp)
    rw [List.cons_append]
    unfold fput
    rw [if_neg (fun e => by rw [e] at hm; exact List.lt_irrefl _ hm), if_neg (fun e => List.lt_irrefl _ (List.lt_trans hm e)), put_mid a n f g q h2]
    rfl
theorem fnd_mid {a : Fs} {n : Nm} {f : Fi} {q : Fs} (h : Srt (a ++ (n, f) :: q)) : fnd (a ++ (n, f) :: q) n = some f := h.fnd (by simp)
def crJ (fs : Fs) (cs : List Int) (j : Nat) : Fs := crashF (fs.take j) cs ++ fs.drop j
theorem crJ_zero (fs : Fs) (cs : List Int) : crJ fs cs 0 = fs := rfl
theorem crJ_all (fs : Fs) (cs : List Int) : crJ fs cs fs.length = crashF fs cs := by unfold crJ; rw [List.take_length, List.drop_length, List.append_nil]
theorem crJ_names (fs : Fs) (cs : List Int) (j : Nat) : (crJ fs cs j).map (·.1) = fs.map (·.1) := by
  unfold crJ
  rw [List.map_append, crash_names, ← List.map_append, List.take_append_drop]
theorem crJ_srt {fs : Fs} (hs : Srt fs) (cs : List Int) (j : Nat) : Srt (crJ fs cs j) := by
  have := List.pairwise_map.2 hs
  rw [← crJ_names fs cs j] at this
  exact List.pairwise_map.1 this
theorem crJ_at {fs : Fs} (cs : List Int) {j : Nat} {n : Nm} {f : Fi} (h : fs[j]? = some (n, f)) : crJ fs cs j = crashF (fs.take j) cs ++ (n, f) :: fs.drop (j + 1) := by
  unfold crJ
  have hj := (List.getElem?_eq_some_iff.1 h)
  obtain ⟨hj, e⟩ := hj
  rw [List.drop_eq_getElem_cons hj, e]
theorem crJ_fnd {fs : Fs} (hs : Srt fs) (cs : List Int) {j : Nat} {n : Nm} {f : Fi} (h : fs[j]? = some (n, f)) : fnd (crJ fs cs j) n = some f := by
  have := crJ_srt hs cs j
  rw [crJ_at cs h] at this ⊢
  exact fnd_mid this
theorem take_snoc {fs : Fs} {j : Nat} {p : Nm × Fi} (h : fs[j]? = some p) : fs.take (j + 1) = fs.take j ++ [p] := by
  rw [List.take_add_one, h]; rfl
theorem crJ_skip {fs : Fs} (cs : List Int) {j : Nat} {n : Nm} {f : Fi} (h : fs[j]? = some (n, f)) (hl : f.s.length - f.sure = 0) : crJ fs cs (j + 1) = crJ fs cs j ∧ lost (fs.take (j + 1)) cs = lost (fs.take j) cs ∧ nLoose (fs.take (j + 1)) = nLoose (fs.take j) := by
  refine ⟨?_, ?_, ?_⟩
  · rw [crJ_at cs h]
    unfold crJ
    rw [take_snoc h, crashF_append, List.append_assoc]
    congr 1
    rw [crashF, if_pos hl]; rfl
  · rw [take_snoc h, lost_append]
    rw [lost, if_pos hl]; rfl
  · rw [take_snoc h, nLoose_append]
    rw [nLoose, if_pos hl]; rfl
theorem crJ_step {fs : Fs} (hs : Srt fs) (cs : List Int) {j : Nat} {n : Nm} {f : Fi} (h : fs[j]? = some (n, f)) (hl : ¬ f.s.length - f.sure = 0) (hk : f.sure ≤ f.s.length) :
    crJ fs cs (j + 1) = fput (crJ fs cs j) n ⟨f.s.take (f.sure + keepOf (f.s.length - f.sure) cs[nLoose (fs.take j)]?), f.sure + keepOf (f.s.length - f.sure) cs[nLoose (fs.take j)]?⟩ ∧
    lost (fs.take (j + 1)) cs = lost (fs.take j) cs + (f.s.length - f.sure - keepOf (f.s.length - f.sure) cs[nLoose (fs.take j)]?) ∧ nLoose (fs.take (j + 1)) = nLoose (fs.take j) + 1 := by
  have hh : (cs.drop (nLoose (fs.take j))).head? = cs[nLoose (fs.take j)]? := by rw [List.head?_drop]
  have hkl := keep_le (f.s.length - f.sure) cs[nLoose (fs.take j)]?
  refine ⟨?_, ?_, ?_⟩
  · have h1 := crJ_srt hs cs j
    rw [crJ_at cs h] at h1 ⊢
    rw [put_mid _ _ _ _ _ h1]
    unfold crJ
    rw [take_snoc h, crashF_append, List.append_assoc]
    congr 1
    rw [crashF, if_neg hl, hh, List.length_take, Nat.min_eq_left (by omega)]; rfl
  · rw [take_snoc h, lost_append]
    rw [lost, if_neg hl, hh]; rfl
  · rw [take_snoc h, nLoose_append]
    rw [nLoose, if_neg hl]; rfl
theorem lost_le (fs : Fs) (hs : ∀ p ∈ fs, p.2.sure ≤ p.2.s.length) (cs : List Int) : lost fs cs ≤ tot fs := by
  have := (crash_tot fs hs cs).1; omega
theorem lost_take_le (fs : Fs) (_ : ∀ p ∈ fs, p.2.sure ≤ p.2.s.length) (cs : List Int) (j : Nat) : lost (fs.take j) cs ≤ lost fs cs := by
  conv => rhs; rw [← List.take_append_drop j fs]
  rw [lost_append]
  exact Nat.le_add_right _ _
end Go.Bar.Wal

/-
  Layer 4 (disk): Crash.
-/
namespace Go.Proofs.YtcopknopifbebaaGreatDoor
open Go.RowKit Go.Bar Go.Bar.Wal Go.Conc
attribute [local go_sem] Oper.semAt_some

def zcs (l : List Int) : List Value := l.map fun n => .int .i64 n
theorem zcs_at {l : List Int} {i : Nat} {s : Int} (h : l[i]? = some s) : (zcs l)[i]? = some (.int .i64 s) := by unfold zcs; rw [List.getElem?_map, h]; rfl
theorem tmod_bnd (z : Int) (l : Nat) : -((l : Int) + 1) < z.tmod (l + 1) ∧ z.tmod (l + 1) < (l : Int) + 1 :=
  ⟨Int.lt_tmod_of_pos z (by omega), Int.tmod_lt_of_pos z (by omega)⟩
theorem keep_some (l : Nat) (z : Int) : ((keepOf l (some z) : Nat) : Int) = (z.tmod (l + 1) + l + 1).tmod (l + 1) := by
  unfold keepOf
  simp only
  have h2 := (tmod_bnd z l).1
  have h3 : (0 : Int) ≤ (z.tmod (l + 1) + l + 1).tmod (l + 1) := Int.tmod_nonneg _ (by omega)
  omega
set_option maxHeartbeats 4000000 in
set_option maxRecDepth 10000 in
theorem crash_any (w : World) (h : Hd) (d : Ds) (B c : Nat) (k : DkAt w h d) (hB : h.Hi B) (ha : Acc c d) (hc : c ≤ 100000000) (hr : d.room ≤ 100000000000) (A : Option Addr) (cn : Nat) (cs : List Int) (hcn : cs.length ≤ 9223372036854775807) (hcs : ∀ w', Below B w w' → SlAt w' 1 (.slice A cs.length cn) cs.length (zcs cs)) :
    Calls Tryz.prog 19 #[.pointer (some ⟨h.D, 0, none⟩), .slice A cs.length cn] w (DkTo B w h (d.crash cs) (.tuple #[])) := by
  have x0 := (d_cells k).1
  have hcl := Lib.hid ((clear_any w h d B k hB).mono fun e w' hh => hh.wide dt0)
  have ha0 := ha.fuse (z := Fz.none_) (Nat.zero_le _)
  have hlist := Lib.hid (fun w' k' => dList_any w' h { d with fz := Fz.none_ } c k' ha0 hc [] (Nat.zero_le _))
  have hnum := ha.num
  have hhi : B ≤ w.heap.size := hiA k hB
  obtain ⟨L, hL⟩ : ∃ L, L = d.fs.map (·.1) := ⟨_, rfl⟩
  have hdl : ({ d with fz := Fz.none_ } : Ds).list [] = L := by
    rw [hL]
    unfold Ds.list
    exact List.filter_eq_self.2 fun n _ => by cases n <;> rfl
  rw [hdl] at hlist
  have hLn : L.length = d.fs.length := by rw [hL, List.length_map]
  replace hL := Lib.hid hL
  clear hdl
  go_enter Tryz.func19, Tryz.ntmps19
  go_wp2_with (first
    | (go_at_call 30; refine hcl.out.mono ?_; rintro e w1 ⟨rfl, k1, o1⟩)
    | (go_at_call 22; refine (hlist.out _ k1).mono ?_; rintro e w2 ⟨v, rfl, hbuf, hb2⟩; obtain ⟨A2, c2, rfl, hlc, hcm⟩ := (SlAt.of_buf hbuf).shape; unfold maxLen at hcm))
  have k2 := k1.below hb2
  have o2 : Off DTs B w w2 := o1.trans (Off.of_below hb2 (hiA k1 hB))
  clear hb2 k1 o1 hlist hcl x0 k
  have hsok := Lib.hid ha.sok
  have hsrt := Lib.hid ha.srt
  have huse1 : d.used ≤ (tot d.fs : Nat) := Int.le_of_eq ha.use
  have huse2 : ((tot d.fs : Nat) : Int) ≤ d.used := Int.le_of_eq ha.use.symm
  have hroom := ha.room
  have hname := Lib.hid ha.nm
  clear ha ha0
  have K2 := Lib.hid k2
  have O2 := Lib.hid o2
  clear k2 o2
  go_loopw [4, 18] (fun i x wr => ∃ j : Nat, x = .int .i64 (j : Nat) ∧ j ≤ d.fs.length ∧ i = .int .i64 (nLoose (d.fs.take j) : Nat) ∧ Hid (DkAt wr h { fs := crJ d.fs cs j, room := d.room, used := d.used - (lost (d.fs.take j) cs : Nat), fz := Fz.none_ }) ∧ Hid (Off DTs B w2 wr)) (fun _ x _ => d.fs.length - (intOf x).toNat)
  case atStart => exact ⟨0, rfl, Nat.zero_le _, rfl, by rw [crJ_zero]; show Hid (DkAt w2 h { fs := d.fs, room := d.room, used := d.used - ((0 : Nat) : Int), fz := Fz.none_ }); rw [Int.ofNat_zero, Int.sub_zero]; exact K2, Off.refl _ _ _⟩
  case round =>
    obtain ⟨j, rfl, hj, rfl, hk, ho⟩ := hrel
    by_cases hjl : j < d.fs.length
    · obtain ⟨⟨n, f⟩, hs⟩ : ∃ s, d.fs[j]? = some s := ⟨_, List.getElem?_eq_getElem hjl⟩
      have hsn := hname.out _ (List.mem_of_getElem? hs)
      have hsk := hsok.out _ (List.mem_of_getElem? hs)
      simp only at hsn hsk
      have hlt := mem_le_tot (List.mem_of_getElem? hs)
      simp only at hlt
      have hcell : ∃ b o, A2 = some ⟨b, o, none⟩ ∧ wr.cell? ⟨b, o + j, none⟩ = some (.string (bs n)) := by
        obtain ⟨bb, oo, e, hlt, hcells⟩ := (SlAt.of_buf (ho.out.kc.buf hbuf nd_str)).cells (by omega)
        refine ⟨bb, oo, e, hcells j _ (scs_at (by rw [hL.out, List.getElem?_map, hs]; rfl))⟩
      obtain ⟨bb, oo, rfl, hcell⟩ := hcell
      have x1 := (d_cells hk.out).2
      have hlk : (Instr.lookup 41 (.map (some h.M)) (.string (bs n)) false).run Tryz.prog wr = .ok (.agg #[.string (bs f.s), .int .i64 (f.sure : Nat)]) wr := by
        obtain ⟨⟨a, b, k1, _⟩, _, _⟩ := hk.out
        have := k1.mp.look fm_ty n (by unfold maxLen; omega)
        rw [crJ_fnd hsrt.out cs hs] at this
        exact this
      have hci : (0 : Int) ≤ (j : Int) := by omega
      have hci2 : (j : Int) < L.length := by omega
      have hl1 : f.s.length ≤ 100000000000 := by omega
      have hl2 : (f.sure : Int) ≤ f.s.length := by omega
      have HS := Lib.hid hs
      clear hs
      by_cases hloose : f.s.length - f.sure = 0
      · have he : f.s.length = f.sure := by omega
        have hst := Lib.hid (crJ_skip cs HS.out hloose)
        have heq : decide ((f.s.length : Int) - f.sure = 0) = true := decide_eq_true (by omega)
        clear hloose
        go_wp2_with fail
        go_roundw
        case rel => exact ⟨j + 1, by go_num, by omega, by rw [hst.out.2.2], by rw [hst.out.1, hst.out.2.1]; exact hk.out.below ((Below.refl _ _).alloc (Nat.le_refl _) _), ho.out.trans (Off.of_below ((Below.refl _ _).alloc (Nat.le_refl _) _) (hiA hk.out hB))⟩
        case measure => simp [intOf]; omega
      · have hst := Lib.hid (crJ_step hsrt.out cs HS.out hloose hsk)
        have hne1 : ¬ f.s.length = f.sure := by omega
        have hne2 : ¬ (f.s.length : Int) = f.sure := by omega
        have hne3 : ¬ (f.s.length : Int) - f.sure = 0 := by omega
        obtain ⟨q, hq⟩ : ∃ q, q = nLoose (d.fs.take j) := ⟨_, rfl⟩
        have hqn : q ≤ 100000000 := by
          rw [hq]
          have := nLoose_le (d.fs.take j)
          rw [List.length_take] at this
          omega
        rw [← hq] at hst ⊢
        obtain ⟨K, hK⟩ : ∃ K, K = keepOf (f.s.length - f.sure) cs[q]? := ⟨_, rfl⟩
        have hKl : K ≤ f.s.length - f.sure := by rw [hK]; exact keep_le _ _
        have hlst : lost (d.fs.take j) cs + (f.s.length - f.sure - K) ≤ tot d.fs := by
          have h1 := hst.out.2.1
          rw [← hK] at h1
          rw [← h1]
          exact Nat.le_trans (lost_take_le _ hsok.out cs (j + 1)) (lost_le _ hsok.out cs)
        have hkeep : (¬ (q : Int) < cs.length ∧ K = 0) ∨ (∃ z b o, A = some ⟨b, o, none⟩ ∧ q < cs.length ∧ (q : Int) < cs.length ∧ (∀ o', (wr.alloc o').cell? ⟨b, o + q, none⟩ = some (.int .i64 z)) ∧ -((f.s.length : Int) - f.sure) ≤ z.tmod ((f.s.length : Int) - f.sure + 1) ∧ z.tmod ((f.s.length : Int) - f.sure + 1) ≤ (f.s.length : Int) - f.sure ∧ (z.tmod ((f.s.length : Int) - f.sure + 1) + ((f.s.length : Int) - f.sure) + 1).tmod ((f.s.length : Int) - f.sure + 1) = (K : Int)) := by
          by_cases hql : q < cs.length
          · right
            obtain ⟨z, hz⟩ : ∃ z, cs[q]? = some z := ⟨_, List.getElem?_eq_getElem hql⟩
            have hbw : ∀ o', Below B w (wr.alloc o') := fun o' => (O2.out.trans ho.out).bel.trans ((Below.refl _ _).alloc (hiA hk.out hB) o')
            have hw0 := hcs _ (O2.out.trans ho.out).bel
            obtain ⟨b, o, e, hlt, hcells⟩ := hw0.cells (by omega)
            have e2 : (((f.s.length - f.sure : Nat) : Int)) = (f.s.length : Int) - f.sure := by omega
            have h1 := tmod_bnd z (f.s.length - f.sure)
            have h2 := keep_some (f.s.length - f.sure) z
            rw [e2] at h1 h2
            refine ⟨z, b, o, e, hql, by omega, fun o' => ?_, by omega, by omega, by rw [hK, hz, h2]⟩
            have := hcells q _ (zcs_at hz)
            exact ((Below.refl wr.heap.size wr).alloc (Nat.le_refl _) o').cell (p := ⟨b, o + q, none⟩) hlt |>.trans this
          · left
            refine ⟨by omega, ?_⟩
            rw [hK, List.getElem?_eq_none (by omega)]; rfl
        rw [← hK] at hst
        clear hK hq hloose
        rcases hkeep with ⟨hd, rfl⟩ | ⟨z, bA, oA, rfl, hd, hql, hzc, hz1, hz2, hz3⟩
        · skip
          go_upto_region 12 with fail
          have hba : Below wr.heap.size wr (wr.alloc (.cells #[.string (bs f.s), .int .i64 (f.sure : Nat)] 94)) := (Below.refl _ _).alloc (Nat.le_refl _) _
          have F3 : Blk (wr.alloc (.cells #[.string (bs f.s), .int .i64 (f.sure : Nat)] 94)) wr.heap.size 94 #[.string (bs f.s), .int .i64 (f.sure : Nat)] := Blk.new wr _ _
          have hBr := hiA hk.out hB
          obtain ⟨F, hF⟩ : ∃ F, F = wr.heap.size := ⟨_, rfl⟩
          obtain ⟨w3, hw3⟩ : ∃ w3, w3 = wr.alloc (.cells #[.string (bs f.s), .int .i64 (f.sure : Nat)] 94) := ⟨_, rfl⟩
          rw [← hw3] at hba F3 ⊢
          rw [← hF] at F3 hBr ⊢
          have k3 := hk.out.below hba
          have o3 := ho.out.trans (Off.of_below hba (by omega))
          clear hw3 hba hF
          obtain ⟨⟨a, b, kc, kx⟩, kq, kn⟩ := k3
          simp only at kc
          have c3 := kc.dk.cell (i := 3) rfl
          have f3 := kc.dk.free 3
          have kd := kc.setD (d.used - (lost (d.fs.take j) cs : Nat) - ((f.s.length : Int) - (f.sure : Int)))
          have od := o3.trans (offD kc hB 3 (.int .i64 (d.used - (lost (d.fs.take j) cs : Nat) - ((f.s.length : Int) - (f.sure : Int)))))
          have F4 := blk_set F3 kc.dk (by decide) 3 (.int .i64 (d.used - (lost (d.fs.take j) cs : Nat) - ((f.s.length : Int) - (f.sure : Int))))
          go_upto_region 13 with fail
          obtain ⟨w4, hw4⟩ : ∃ w4, w4 = w3.setCell ⟨h.D, 3, none⟩ (.int .i64 (d.used - (lost (d.fs.take j) cs : Nat) - ((f.s.length : Int) - (f.sure : Int)))) := ⟨_, rfl⟩
          rw [← hw4] at kd od F4 ⊢
          clear hw4 kc c3 f3 F3
          obtain ⟨T, hT⟩ : ∃ T, T = f.s.take (f.sure) := ⟨_, rfl⟩
          have hTl : T.length = f.sure := by rw [hT, List.length_take, Nat.min_eq_left (by omega)]
          have hsl : ∀ w, (Instr.slice 9 (.string (bs f.s)) none (some (.int .i64 ((f.sure : Nat)))) none).run Tryz.prog w = .ok (.string (bs T)) w := fun w => by
            have := slice_to (P := Tryz.prog) Tryz.underlying9 f.s (f.sure) (by omega) w
            rw [hT]
            simpa using this
          have hTu : T.length ≤ 9223372036854775807 := by omega
          replace hT := Lib.hid hT
          replace hTl := Lib.hid hTl
          obtain ⟨g0, g1⟩ := Blk.c2 F4
          have gf := F4.free 0
          have k5 := kd.other F4 ndk_file 0 (.string (bs T))
          have o5 : Off DTs B w4 _ := Off.set F4 (.inr (.inr rfl)) hBr 0 (.string (bs T))
          have F5 := F4.set 0 (.string (bs T))
          go_upto_region 14 with fail
          obtain ⟨w5, hw5⟩ : ∃ w5, w5 = w4.setCell ⟨F, 0, none⟩ (.string (bs T)) := ⟨_, rfl⟩
          rw [← hw5] at k5 o5 F5 ⊢
          replace o5 := od.trans o5
          clear hw5 kd F4 g0 g1 gf hsl
          have F5 : Blk w5 F 94 #[.string (bs T), .int .i64 (f.sure : Nat)] := F5
          have g0 := F5.cell (i := 0) rfl
          have gf := F5.free 1
          have g1 := F5.cell (i := 1) rfl
          have k6 := k5.other F5 ndk_file 1 (.int .i64 (T.length : Nat))
          have o6 : Off DTs B w5 _ := Off.set F5 (.inr (.inr rfl)) hBr 1 (.int .i64 (T.length : Nat))
          have F6 := F5.set 1 (.int .i64 (T.length : Nat))
          go_upto_region 15 with fail
          obtain ⟨w6, hw6⟩ : ∃ w6, w6 = w5.setCell ⟨F, 1, none⟩ (.int .i64 (T.length : Nat)) := ⟨_, rfl⟩
          rw [← hw6] at k6 o6 F6 ⊢
          replace o6 := o5.trans o6
          clear hw6 F5 k5 g0 gf g1
          have F6 : Blk w6 F 94 #[.string (bs T), .int .i64 (T.length : Nat)] := F6
          obtain ⟨g0, g1⟩ := Blk.c2 F6
          have c1 := k6.dk.cell (i := 1) rfl
          have kd := k6.below (Below.refl _ w6).drew
          obtain ⟨w7, hup, hm7, hg7⟩ := kd.mp.upd fm_ty (crJ_srt hsrt.out cs j) (by
            have := congrArg List.length (crJ_names d.fs cs j)
            rw [List.length_map, List.length_map] at this
            rw [this]; unfold maxLen; omega) n (by unfold maxLen; omega) ⟨T, T.length⟩
          simp only [fiV] at hup
          have k7 := kd.files hm7 hg7
          have o7 := kd.off_map hB hg7
          replace o7 := o6.trans ((Off.of_below (Below.refl _ w6).drew (hiW k6 hB)).trans o7)
          clear hm7 hg7
          go_region
          clear g0 g1 c1 hup kd F6
          have hlz := hst.out.2.1
          have hfz := hst.out.1
          have hKZ : ({ fs := fput (crJ d.fs cs j) n ⟨T, T.length⟩, room := d.room, used := d.used - (lost (d.fs.take j) cs : Nat) - ((f.s.length : Int) - (f.sure : Int)), fz := Fz.none_ } : Ds) = { fs := crJ d.fs cs (j + 1), room := d.room, used := d.used - (lost (d.fs.take (j + 1)) cs : Nat), fz := Fz.none_ } := by
            rw [hfz, hlz, hTl.out, hT.out]
            congr 1
            omega
          replace hKZ := Lib.hid hKZ
          replace k7 : DkAt w7 h { fs := fput (crJ d.fs cs j) n ⟨T, T.length⟩, room := d.room, used := d.used - (lost (d.fs.take j) cs : Nat) - ((f.s.length : Int) - (f.sure : Int)), fz := Fz.none_ } := ⟨⟨a, b, k7, kx⟩, kq, kn⟩
          rw [hKZ.out] at k7
          replace k7 := Lib.hid k7
          replace o7 := Lib.hid o7
          clear hlz hfz
          go_wp2_with fail
          go_roundw
          case rel => exact ⟨j + 1, by go_num, by omega, by rw [hst.out.2.2]; go_num, k7, o7⟩
          case measure => simp [intOf]; omega
        · skip
          go_upto_region 12 with fail
          have hba : Below wr.heap.size wr (wr.alloc (.cells #[.string (bs f.s), .int .i64 (f.sure : Nat)] 94)) := (Below.refl _ _).alloc (Nat.le_refl _) _
          have F3 : Blk (wr.alloc (.cells #[.string (bs f.s), .int .i64 (f.sure : Nat)] 94)) wr.heap.size 94 #[.string (bs f.s), .int .i64 (f.sure : Nat)] := Blk.new wr _ _
          have hBr := hiA hk.out hB
          obtain ⟨F, hF⟩ : ∃ F, F = wr.heap.size := ⟨_, rfl⟩
          obtain ⟨w3, hw3⟩ : ∃ w3, w3 = wr.alloc (.cells #[.string (bs f.s), .int .i64 (f.sure : Nat)] 94) := ⟨_, rfl⟩
          rw [← hw3] at hba F3 ⊢
          rw [← hF] at F3 hBr ⊢
          have k3 := hk.out.below hba
          have o3 := ho.out.trans (Off.of_below hba (by omega))
          clear hw3 hba hF
          obtain ⟨⟨a, b, kc, kx⟩, kq, kn⟩ := k3
          simp only at kc
          have c3 := kc.dk.cell (i := 3) rfl
          have f3 := kc.dk.free 3
          have kd := kc.setD (d.used - (lost (d.fs.take j) cs : Nat) - ((f.s.length : Int) - (f.sure : Int) - (K : Int)))
          have od := o3.trans (offD kc hB 3 (.int .i64 (d.used - (lost (d.fs.take j) cs : Nat) - ((f.s.length : Int) - (f.sure : Int) - (K : Int)))))
          have F4 := blk_set F3 kc.dk (by decide) 3 (.int .i64 (d.used - (lost (d.fs.take j) cs : Nat) - ((f.s.length : Int) - (f.sure : Int) - (K : Int))))
          go_upto_region 13 with fail
          obtain ⟨w4, hw4⟩ : ∃ w4, w4 = w3.setCell ⟨h.D, 3, none⟩ (.int .i64 (d.used - (lost (d.fs.take j) cs : Nat) - ((f.s.length : Int) - (f.sure : Int) - (K : Int)))) := ⟨_, rfl⟩
          rw [← hw4] at kd od F4 ⊢
          clear hw4 kc c3 f3 F3
          obtain ⟨T, hT⟩ : ∃ T, T = f.s.take (f.sure + K) := ⟨_, rfl⟩
          have hTl : T.length = f.sure + K := by rw [hT, List.length_take, Nat.min_eq_left (by omega)]
          have hsl : ∀ w, (Instr.slice 9 (.string (bs f.s)) none (some (.int .i64 ((f.sure : Int) + (K : Int)))) none).run Tryz.prog w = .ok (.string (bs T)) w := fun w => by
            have := slice_to (P := Tryz.prog) Tryz.underlying9 f.s (f.sure + K) (by omega) w
            rw [hT]
            simpa using this
          have hTu : T.length ≤ 9223372036854775807 := by omega
          replace hT := Lib.hid hT
          replace hTl := Lib.hid hTl
          obtain ⟨g0, g1⟩ := Blk.c2 F4
          have gf := F4.free 0
          have k5 := kd.other F4 ndk_file 0 (.string (bs T))
          have o5 : Off DTs B w4 _ := Off.set F4 (.inr (.inr rfl)) hBr 0 (.string (bs T))
          have F5 := F4.set 0 (.string (bs T))
          go_upto_region 14 with fail
          obtain ⟨w5, hw5⟩ : ∃ w5, w5 = w4.setCell ⟨F, 0, none⟩ (.string (bs T)) := ⟨_, rfl⟩
          rw [← hw5] at k5 o5 F5 ⊢
          replace o5 := od.trans o5
          clear hw5 kd F4 g0 g1 gf hsl
          have F5 : Blk w5 F 94 #[.string (bs T), .int .i64 (f.sure : Nat)] := F5
          have g0 := F5.cell (i := 0) rfl
          have gf := F5.free 1
          have g1 := F5.cell (i := 1) rfl
          have k6 := k5.other F5 ndk_file 1 (.int .i64 (T.length : Nat))
          have o6 : Off DTs B w5 _ := Off.set F5 (.inr (.inr rfl)) hBr 1 (.int .i64 (T.length : Nat))
          have F6 := F5.set 1 (.int .i64 (T.length : Nat))
          go_upto_region 15 with fail
          obtain ⟨w6, hw6⟩ : ∃ w6, w6 = w5.setCell ⟨F, 1, none⟩ (.int .i64 (T.length : Nat)) := ⟨_, rfl⟩
          rw [← hw6] at k6 o6 F6 ⊢
          replace o6 := o5.trans o6
          clear hw6 F5 k5 g0 gf g1
          have F6 : Blk w6 F 94 #[.string (bs T), .int .i64 (T.length : Nat)] := F6
          obtain ⟨g0, g1⟩ := Blk.c2 F6
          have c1 := k6.dk.cell (i := 1) rfl
          have kd := k6.below (Below.refl _ w6).drew
          obtain ⟨w7, hup, hm7, hg7⟩ := kd.mp.upd fm_ty (crJ_srt hsrt.out cs j) (by
            have := congrArg List.length (crJ_names d.fs cs j)
            rw [List.length_map, List.length_map] at this
            rw [this]; unfold maxLen; omega) n (by unfold maxLen; omega) ⟨T, T.length⟩
          simp only [fiV] at hup
          have k7 := kd.files hm7 hg7
          have o7 := kd.off_map hB hg7
          replace o7 := o6.trans ((Off.of_below (Below.refl _ w6).drew (hiW k6 hB)).trans o7)
          clear hm7 hg7
          go_region
          clear g0 g1 c1 hup kd F6
          have hlz := hst.out.2.1
          have hfz := hst.out.1
          have hKZ : ({ fs := fput (crJ d.fs cs j) n ⟨T, T.length⟩, room := d.room, used := d.used - (lost (d.fs.take j) cs : Nat) - ((f.s.length : Int) - (f.sure : Int) - (K : Int)), fz := Fz.none_ } : Ds) = { fs := crJ d.fs cs (j + 1), room := d.room, used := d.used - (lost (d.fs.take (j + 1)) cs : Nat), fz := Fz.none_ } := by
            rw [hfz, hlz, hTl.out, hT.out]
            congr 1
            omega
          replace hKZ := Lib.hid hKZ
          replace k7 : DkAt w7 h { fs := fput (crJ d.fs cs j) n ⟨T, T.length⟩, room := d.room, used := d.used - (lost (d.fs.take j) cs : Nat) - ((f.s.length : Int) - (f.sure : Int) - (K : Int)), fz := Fz.none_ } := ⟨⟨a, b, k7, kx⟩, kq, kn⟩
          rw [hKZ.out] at k7
          replace k7 := Lib.hid k7
          replace o7 := Lib.hid o7
          clear hlz hfz
          go_wp2_with fail
          go_roundw
          case rel => exact ⟨j + 1, by go_num, by omega, by rw [hst.out.2.2]; go_num, k7, o7⟩
          case measure => simp [intOf]; omega
    · have he : j = d.fs.length := by omega
      subst he
      rw [List.take_length, crJ_all] at hk
      rw [List.take_length]
      clear hjl
      go_wp2_with fail
      go_end0
      exact ⟨rfl, hk.out, O2.out.trans ho.out⟩
end Go.Proofs.YtcopknopifbebaaGreatDoor

/-
  Layer 11 (wal): a log in memory; sick.
-/
namespace Go.Bar.Wal
open Go.RowKit Go.Bar Go.Proofs
def LTs (T : TypeId) : Prop := DTs T ∨ T = 82
theorem dlt : ∀ T, DTs T → LTs T := fun _ h => .inl h
def LgAt (w : World) (L : Nat) (h : Hd) (g : Lg) : Prop := Blk w L 82 #[.pointer (some ⟨h.D, 0, none⟩), .int .i64 g.limit, .int .i64 (g.seg : Nat), .int .i64 (g.size : Nat), .bool g.broken]
theorem nd_log : ¬ DTs 82 := fun c => by rcases c with c | c | c <;> exact absurd c (by decide)
theorem ndk_log : NDk 82 := ⟨by decide, by decide⟩
theorem LgAt.off {w w' : World} {L : Nat} {h : Hd} {g : Lg} {B : Nat} (k : LgAt w L h g) (o : Off DTs B w w') : LgAt w' L h g := o.kc.blk k nd_log
theorem LgAt.below {w w' : World} {L : Nat} {h : Hd} {g : Lg} (k : LgAt w L h g) (o : Below w.heap.size w w') : LgAt w' L h g := Blk.below k o
structure LgTo (B : Nat) (w : World) (L : Nat) (h : Hd) (r : Nat × Ds × Lg) (en : Ending) (w' : World) : Prop where
  ret : en = .returned (.int .i64 (r.1 : Nat))
  dk : DkAt w' h r.2.1
  lg : LgAt w' L h r.2.2
  off : Off LTs B w w'
end Go.Bar.Wal
namespace Go.Proofs.YtcopknopifbebaaGreatDoor
open Go.RowKit Go.Bar Go.Bar.Wal Go.Bar.Leb Go.Bar.Frm Go.Conc
attribute [local go_sem] Oper.semAt_some

set_option maxHeartbeats 4000000 in
theorem sick_any (w : World) (L : Nat) (h : Hd) (g : Lg) (e : Nat) (k : LgAt w L h g) (hb : g.broken = false) :
    Calls Tryz.prog 46 #[.pointer (some ⟨L, 0, none⟩), .int .i64 (e : Nat)] w fun en w' => en = .returned (.int .i64 (e : Nat)) ∧ w.setCell ⟨L, 4, none⟩ (.bool (e == 8)) = w' := by
  have k : Blk w L 82 #[.pointer (some ⟨h.D, 0, none⟩), .int .i64 g.limit, .int .i64 (g.seg : Nat), .int .i64 (g.size : Nat), .bool g.broken] := k
  rw [hb] at k
  have c4 := k.cell (i := 4) rfl
  have f4 := k.free 4
  have he : Hid ((e == 8) = decide ((e : Int) = 8)) := by
    show (e == 8) = decide ((e : Int) = 8)
    rw [Bool.eq_iff_iff]
    simp only [beq_iff_eq, decide_eq_true_eq]
    omega
  rw [he.out]
  go_enter Tryz.func46, Tryz.ntmps46
  go_wp2_with fail
  go_ret
  exact ⟨rfl, rfl⟩
end Go.Proofs.YtcopknopifbebaaGreatDoor

/-
  Layer 11 (wal): Append.
-/
namespace Go.Bar.Wal
open Go.RowKit Go.Bar Go.Bar.Leb Go.Bar.Frm
def appTail (d : Ds) (g1 : Lg) (S : List UInt8) : Nat × Ds × Lg :=
  if (d.append (segN g1.seg) S).1 ≠ 0 then ((d.append (segN g1.seg) S).1, (d.append (segN g1.seg) S).2, ⟨g1.limit, g1.seg, g1.size, (d.append (segN g1.seg) S).1 == 8⟩)
  else (((d.append (segN g1.seg) S).2.sync (segN g1.seg)).1, ((d.append (segN g1.seg) S).2.sync (segN g1.seg)).2, ⟨g1.limit, g1.seg, g1.size + S.length, ((d.append (segN g1.seg) S).2.sync (segN g1.seg)).1 == 8⟩)
theorem wAppend_tail {d : Ds} {g : Lg} {rs : List Rc} (h1 : g.broken = false) (h2 : ¬ laid rs = []) (h3 : ¬ d.free < (laid rs).length) :
    wAppend d g rs = appTail d (if 0 < g.size ∧ g.limit - (laid rs).length < g.size then ⟨g.limit, g.seg + 1, 0, g.broken⟩ else g) (laid rs) := by
  unfold wAppend
  rw [if_neg (by rw [h1]; decide), if_neg h2, if_neg h3]
  rfl
theorem do_room (d : Ds) (act : Ds → Ds) (h : ∀ d, (act d).room = d.room) : (d.do_ act).2.room = d.room := by
  unfold Ds.do_
  simp only
  split
  · exact h _
  · rfl
theorem append_room (d : Ds) (n : Nm) (s : List UInt8) : (d.append n s).2.room = d.room := by
  unfold Ds.append
  split
  · rfl
  · split
    · rfl
    · exact do_room d _ fun _ => rfl
end Go.Bar.Wal
namespace Go.Proofs.YtcopknopifbebaaGreatDoor
open Go.RowKit Go.Bar Go.Bar.Wal Go.Bar.Leb Go.Bar.Frm Go.Conc
attribute [local go_sem] Oper.semAt_some

def FinDk (B : Nat) (w0 : World) (h : Hd) (d : Ds) (_ : Nat → Value) (w' : World) : Prop := DkAt w' h d ∧ Off DTs B w0 w'
def FinLg (B : Nat) (w0 : World) (L : Nat) (h : Hd) (d : Ds) (g : Lg) (_ : Nat → Value) (w' : World) : Prop := DkAt w' h d ∧ LgAt w' L h g ∧ Off LTs B w0 w'
set_option maxHeartbeats 8000000 in
set_option maxRecDepth 10000 in
theorem lAppend_any (w : World) (L : Nat) (h : Hd) (d : Ds) (g : Lg) (B c : Nat) (v : Value) (rs : List Rc) (k : DkAt w h d) (kl : LgAt w L h g) (hE : EnvAt w) (hB : h.Hi B) (hL : B ≤ L) (hB4 : 4 ≤ B) (ha : Acc c d) (hc : c ≤ 100000) (hr : d.room ≤ 10000000)
    (hv : RecsAt w v rs) (hn : rs.length ≤ 20) (hs : ∀ r ∈ rs, r.2.length ≤ 1000) (hg1 : 1 ≤ g.limit) (hg2 : g.limit ≤ 9223372036854775807) (hg3 : g.seg ≤ 1000000) (hg4 : g.size ≤ 1000000000) :
    Calls Tryz.prog 14 #[.pointer (some ⟨L, 0, none⟩), v] w (LgTo B w L h (wAppend d g rs)) := by
  have hu1 : (0 : Int) ≤ d.used := by have := ha.use; omega
  have hu2 := ha.room
  have hsp := Lib.hid (spell_any v rs w hv hn hs)
  have hSl := laid_small rs hs
  have hB0 := hiA k hB
  have hE0 := Lib.hid hE
  obtain ⟨r, hre⟩ : ∃ r, r = wAppend d g rs := ⟨_, rfl⟩
  have hr9 : g.broken = true → r = (9, d, g) := fun hb => by rw [hre]; unfold wAppend; rw [if_pos hb]
  have hr0 : g.broken = false → laid rs = [] → r = (0, d, g) := fun hb he => by rw [hre]; unfold wAppend; rw [if_neg (by rw [hb]; decide), if_pos he]
  have hr7 : g.broken = false → ¬ laid rs = [] → d.free < (laid rs).length → r = (7, d, g) := fun hb he hf => by rw [hre]; unfold wAppend; rw [if_neg (by rw [hb]; decide), if_neg he, if_pos hf]
  have hrt : g.broken = false → ¬ laid rs = [] → ¬ d.free < (laid rs).length → r = appTail d (if 0 < g.size ∧ g.limit - (laid rs).length < g.size then ⟨g.limit, g.seg + 1, 0, g.broken⟩ else g) (laid rs) := fun hb he hf => by rw [hre]; exact wAppend_tail hb he hf
  rw [← hre]
  clear hre
  obtain ⟨S, hS⟩ : ∃ S, S = laid rs := ⟨_, rfl⟩
  rw [← hS] at hsp hSl hr0 hr7 hrt
  clear hS hv hs
  have hSl : S.length ≤ 100000 := by omega
  go_enter Tryz.func14, Tryz.ntmps14
  go_upto_region 2 with (go_at_call 44; refine hsp.out.mono ?_; rintro e w1 ⟨rfl, hb1⟩)
  replace k := k.below hb1
  replace kl := kl.below hb1
  replace hE := hE.below hb1
  have o1 : Off LTs B w w1 := Off.of_below hb1 hB0
  have hB1 : B ≤ w1.heap.size := hiA k hB
  clear hb1 hsp hB0
  replace hr9 := Lib.hid hr9
  replace hr0 := Lib.hid hr0
  replace hr7 := Lib.hid hr7
  replace hrt := Lib.hid hrt
  obtain ⟨c0, c1, c2, c3, c4⟩ := Blk.c5 kl
  cases hbk : g.broken with
  | true =>
    have e := Lib.hid (hr9.out hbk)
    rw [hbk] at c4
    clear hbk
    go_wp2_with fail
    go_ret
    rw [e.out]
    exact ⟨rfl, k, kl, o1⟩
  | false =>
    rw [hbk] at c4
    replace hr0 := Lib.hid (hr0.out hbk)
    replace hr7 := Lib.hid (hr7.out hbk)
    replace hrt := Lib.hid (hrt.out hbk)
    have HBK := Lib.hid hbk
    clear hbk hr9
    by_cases hS0 : S = []
    · have e := Lib.hid (hr0.out hS0)
      subst hS0
      clear hr0 hr7 hrt
      go_wp2_with fail
      go_ret
      rw [e.out]
      exact ⟨rfl, k, kl, o1⟩
    · have hS1 : 0 < S.length := List.length_pos_iff.2 hS0
      have hS2 : ¬ S.length = 0 := by omega
      replace hr7 := Lib.hid (hr7.out hS0)
      replace hrt := Lib.hid (hrt.out hS0)
      clear hr0
      have HF := Lib.hid (free_any w1 h d k (by omega) (by omega) (by omega) hu2)
      by_cases hfree : d.free < S.length
      · have e := Lib.hid (hr7.out hfree)
        clear hr7 hrt
        go_wp2_with (go_at_call 45; refine HF.out.mono ?_; rintro e2 w2 ⟨rfl, q, rfl⟩)
        go_ret
        rw [e.out]
        exact ⟨rfl, k.below (below_draws _ _), kl.below (below_draws _ _), o1.trans (Off.of_below (below_draws _ _) hB1)⟩
      · replace hrt := Lib.hid (hrt.out (by omega))
        clear hr7
        have hfree2 : ((S.length : Nat) : Int) ≤ d.free := by omega
        go_upto_region 8 with (go_at_call 45; refine HF.out.mono ?_; rintro e2 w2 ⟨rfl, q, rfl⟩)
        have hlim : (S.length : Int) ≤ 100000 := by omega
        have hgs : (g.size : Int) ≤ 1000000000 := by omega
        have hgs0 : (0 : Int) ≤ (g.size : Int) := by omega
        replace o1 := o1.trans (Off.of_below (below_draws _ q) hB1)
        replace k := k.below (below_draws _ q)
        replace kl := kl.below (below_draws _ q)
        replace hE := hE.below (below_draws _ q)
        clear c0 c1 c2 c3 c4 HF hB1
        obtain ⟨w2, hw2⟩ : ∃ w2, w2 = w1.drewN q := ⟨_, rfl⟩
        rw [← hw2] at o1 k kl hE ⊢
        clear hw2
        have hcut : (¬ 0 < g.size ∧ decide ((0 : Int) < (g.size : Int)) = false) ∨ (0 < g.size ∧ decide ((0 : Int) < (g.size : Int)) = true ∧ ¬ g.limit - S.length < g.size ∧ decide (g.limit - (S.length : Int) < (g.size : Int)) = false) ∨ (0 < g.size ∧ decide ((0 : Int) < (g.size : Int)) = true ∧ g.limit - S.length < g.size ∧ decide (g.limit - (S.length : Int) < (g.size : Int)) = true) := by
          by_cases h1 : 0 < g.size
          · by_cases h2 : g.limit - S.length < g.size
            · exact .inr (.inr ⟨h1, decide_eq_true (by omega), h2, decide_eq_true h2⟩)
            · exact .inr (.inl ⟨h1, decide_eq_true (by omega), h2, decide_eq_false h2⟩)
          · exact .inl ⟨h1, decide_eq_false (by omega)⟩
        have HKL := Lib.hid kl
        obtain ⟨c0, c1, c2, c3, c4⟩ := Blk.c5 kl
        have f2 := Blk.free kl 2
        have f3 := Blk.free kl 3
        rcases hcut with ⟨hz, hd1⟩ | ⟨hz, hd1, hy, hd2⟩ | ⟨hz, hd1, hy, hd2⟩
        focus
          rw [if_neg (fun e => hz e.1)] at hrt
          have hdn : decide (0 < g.size) = false := decide_eq_false hz
          have hz0 : g.size = 0 := by omega
          clear hz
          go_quiet (fail)
          go_upto_region 10 with fail
          obtain ⟨wA, hwA⟩ : ∃ wA, wA = w2.drewN nq := ⟨_, rfl⟩
          have hbA : Below w2.heap.size w2 wA := by rw [hwA]; exact below_draws _ _
          rw [← hwA]
          have kA := k.below hbA
          have lA := LgAt.below HKL.out hbA
          have hEA := hE.below hbA
          have oA := o1.trans (Off.of_below hbA (hiA k hB))
          obtain ⟨gA, hgA⟩ : ∃ gA, gA = g := ⟨_, rfl⟩
          rw [← hgA] at lA hrt
          have hsA : gA.seg ≤ 1000001 := by rw [hgA]; omega
          have hzA : gA.size ≤ 1000000000 := by rw [hgA]; omega
          have hkA := Lib.hid (show gA.broken = false by rw [hgA]; exact HBK.out)
          clear hgA hwA hbA k HKL hE o1
        rotate_left 1
        focus
          rw [if_neg (fun e => hy e.2)] at hrt
          clear hy
          have hdn : decide (0 < g.size) = true := decide_eq_true hz
          go_quiet (fail)
          go_upto_region 10 with fail
          clear hd2
          obtain ⟨wA, hwA⟩ : ∃ wA, wA = w2.drewN nq := ⟨_, rfl⟩
          have hbA : Below w2.heap.size w2 wA := by rw [hwA]; exact below_draws _ _
          rw [← hwA]
          have kA := k.below hbA
          have lA := LgAt.below HKL.out hbA
          have hEA := hE.below hbA
          have oA := o1.trans (Off.of_below hbA (hiA k hB))
          obtain ⟨gA, hgA⟩ : ∃ gA, gA = g := ⟨_, rfl⟩
          rw [← hgA] at lA hrt
          have hsA : gA.seg ≤ 1000001 := by rw [hgA]; omega
          have hzA : gA.size ≤ 1000000000 := by rw [hgA]; omega
          have hkA := Lib.hid (show gA.broken = false by rw [hgA]; exact HBK.out)
          clear hgA hwA hbA k HKL hE o1
        rotate_left 1
        focus
          rw [if_pos ⟨hz, hy⟩] at hrt
          clear hy
          have hdn : decide (0 < g.size) = true := decide_eq_true hz
          go_quiet (fail)
          go_upto_region 10 with fail
          clear hd2
          have hbA : Below w2.heap.size w2 (w2.drewN nq) := below_draws _ _
          have kB := k.below hbA
          have lB := LgAt.below HKL.out hbA
          have oB := o1.trans (Off.of_below hbA (hiA k hB))
          have hEB := hE.below hbA
          obtain ⟨wB, hwB⟩ : ∃ wB, wB = w2.drewN nq := ⟨_, rfl⟩
          rw [← hwB] at kB lB oB hEB ⊢
          have lB : Blk wB L 82 #[.pointer (some ⟨h.D, 0, none⟩), .int .i64 g.limit, .int .i64 (g.seg : Nat), .int .i64 (g.size : Nat), .bool g.broken] := lB
          have lC := (lB.set 2 (.int .i64 ((g.seg : Int) + 1))).set 3 (.int .i64 0)
          have kC := (kB.other lB ndk_log 2 (.int .i64 ((g.seg : Int) + 1))).other (lB.set 2 (.int .i64 ((g.seg : Int) + 1))) ndk_log 3 (.int .i64 0)
          have oC := (oB.trans (Off.set lB (.inr rfl) hL 2 (.int .i64 ((g.seg : Int) + 1)))).trans (Off.set (lB.set 2 (.int .i64 ((g.seg : Int) + 1))) (.inr rfl) hL 3 (.int .i64 0))
          obtain ⟨wA, hwA⟩ : ∃ wA, wA = (wB.setCell ⟨L, 2, none⟩ (.int .i64 ((g.seg : Int) + 1))).setCell ⟨L, 3, none⟩ (.int .i64 0) := ⟨_, rfl⟩
          have hEA : EnvAt wA := hE0.out.bel (by rw [hwA]; exact oC.bel) hB4
          rw [← hwA] at lC kC oC ⊢
          obtain ⟨gA, hgA⟩ : ∃ gA : Lg, gA = ⟨g.limit, g.seg + 1, 0, g.broken⟩ := ⟨_, rfl⟩
          have lA : LgAt wA L h gA := by rw [hgA]; exact lC
          have kA := kC
          have oA := oC
          rw [← hgA] at hrt
          have hsA : gA.seg ≤ 1000001 := by rw [hgA]; show g.seg + 1 ≤ _; omega
          have hzA : gA.size ≤ 1000000000 := by rw [hgA]; show 0 ≤ _; omega
          have hkA := Lib.hid (show gA.broken = false by rw [hgA]; exact HBK.out)
          clear hgA hwA hbA k HKL hE o1 lC kC oC lB kB oB hEB hwB
        rotate_left 1
        all_goals
          clear hd1 hdn c0 c1 c2 c3 c4 f2 f3
          obtain ⟨N, hN⟩ : ∃ N, N = segN gA.seg := ⟨_, rfl⟩
          have hNl : N.length ≤ 40 := by rw [hN]; exact good_len (segN_good (by omega))
          have hnm := fun wx (hw : Below wA.heap.size wA wx) => name_any wx (hEA.below hw) gA.seg (by omega)
          have happ := fun wx (hw : Below wA.heap.size wA wx) => dAppend_any wx h d B c (kA.below hw) hB ha (by omega) (by omega) N S (by unfold maxLen; omega) (by unfold maxLen; omega)
          obtain ⟨ap, hap⟩ : ∃ ap, ap = d.append N S := ⟨_, rfl⟩
          have haA : Wal.Acc (c + 1) ap.2 := by rw [hap]; exact ha.append N S
          have hrA : ap.2.room = d.room := by rw [hap]; exact append_room d N S
          unfold appTail at hrt
          rw [← hN, ← hap] at hrt
          rw [← hN] at hnm
          rw [← hap] at happ
          have hNN := Lib.hid hN
          clear hN hap ha
          have HNM := Lib.hid hnm
          have HAPP := Lib.hid happ
          have HLA := Lib.hid lA
          have HB := Lib.hid (hiA kA hB)
          clear hnm happ lA
          have hstT : ∀ k v w w', Below w.heap.size w w' → Dv.factOf ([(3, ((fun v => v = (.pointer (some ⟨h.D, 0, none⟩))), noFact, 3)), (7, ((fun v => v = (.int .i64 (gA.seg : Nat))), noFact, 7)), (8, ((fun v => v = (.string (bs N))), noFact, 8)), (10, ((fun v => v = .int .i64 (ap.1 : Nat)), noFact, 10))] : List (Nat × Dv.Kp)) k v w → Dv.factOf ([(3, ((fun v => v = (.pointer (some ⟨h.D, 0, none⟩))), noFact, 3)), (7, ((fun v => v = (.int .i64 (gA.seg : Nat))), noFact, 7)), (8, ((fun v => v = (.string (bs N))), noFact, 8)), (10, ((fun v => v = .int .i64 (ap.1 : Nat)), noFact, 10))] : List (Nat × Dv.Kp)) k v w' := Dv.fact_st (by
            simp only [List.forall_mem_cons, List.not_mem_nil, false_imp_iff, implies_true, and_true]
            refine ⟨?_, ?_, ?_, ?_⟩
            · exact fun _ _ _ _ _ => trivial
            · exact fun _ _ _ _ _ => trivial
            · exact fun _ _ _ _ _ => trivial
            · exact fun _ _ _ _ _ => trivial)
          have htrT : ∀ x ∈ ([(3, ((fun v => v = (.pointer (some ⟨h.D, 0, none⟩))), noFact, 3)), (7, ((fun v => v = (.int .i64 (gA.seg : Nat))), noFact, 7)), (8, ((fun v => v = (.string (bs N))), noFact, 8)), (10, ((fun v => v = .int .i64 (ap.1 : Nat)), noFact, 10))] : List (Nat × Dv.Kp)), (([(3, ((fun v => v = (.pointer (some ⟨h.D, 0, none⟩))), noFact, 3)), (7, ((fun v => v = (.int .i64 (gA.seg : Nat))), noFact, 7)), (8, ((fun v => v = (.string (bs N))), noFact, 8)), (10, ((fun v => v = .int .i64 (ap.1 : Nat)), noFact, 10))] : List (Nat × Dv.Kp)).lookup x.2.2.2).isSome = true := by
            simp only [List.forall_mem_cons, List.not_mem_nil, false_imp_iff, implies_true, and_true]
            exact ⟨by kernel_rfl, by kernel_rfl, by kernel_rfl, by kernel_rfl⟩
          refine Dv.wp_region_two (L := ([(3, ((fun v => v = (.pointer (some ⟨h.D, 0, none⟩))), noFact, 3)), (7, ((fun v => v = (.int .i64 (gA.seg : Nat))), noFact, 7)), (8, ((fun v => v = (.string (bs N))), noFact, 8)), (10, ((fun v => v = .int .i64 (ap.1 : Nat)), noFact, 10))] : List (Nat × Dv.Kp))) (m := 10) (Fin := (FinDk B wA h ap.2)) (by kernel_rfl) 94 (by kernel_rfl) rfl (by kernel_rfl) ?_ ?_ ?_
          · simp only [List.forall_mem_cons, List.not_mem_nil, false_imp_iff, implies_true, and_true]
            exact ⟨⟨_, rfl⟩, ⟨_, rfl⟩, ⟨_, rfl⟩, ⟨_, rfl⟩⟩
          · exact (fun vs vs' w' _ hf => hf)
          repeat (first
            | (refine Dv.Chain.step (v := ?_) (a' := ?_) rfl rfl rfl ?_ ?_ ?_; rotate_left 2; (focus (intro w; go_simp; try with_reducible rfl)); focus (simp only [Act.put, pqA, pqS, pqZ]; try rfl))
            | (refine Dv.XT.call (i := 3) (a' := ?_) _ _ rfl (by decide) hstT rfl rfl (fun wx hw hF => ?_) htrT ?_ ?_; rotate_left 1; (focus (obtain ⟨g0, g1, g2, g3, g4⟩ := Blk.c5 ((LgAt.below HLA.out hw)); go_simp; first | exact ⟨rfl, rB⟩ | exact rB)); focus (simp only [Act.put, pqA, pqS, pqZ]; try rfl))
            | (refine Dv.XT.call (i := 7) (a' := ?_) _ _ rfl (by decide) hstT rfl rfl (fun wx hw hF => ?_) htrT ?_ ?_; rotate_left 1; (focus (obtain ⟨g0, g1, g2, g3, g4⟩ := Blk.c5 ((LgAt.below HLA.out hw)); go_simp; first | exact ⟨rfl, rB⟩ | exact rB)); focus (simp only [Act.put, pqA, pqS, pqZ]; try rfl))
            | (refine Dv.XT.call (i := 8) (a' := ?_) _ _ rfl (by decide) hstT rfl rfl (fun wx hw hF => ?_) htrT ?_ ?_; rotate_left 1; (focus (go_simp; (with_reducible refine (HNM.out wx hw).mono ?_); exact (fun e w' ⟨h1, h2⟩ => by subst h1; exact ⟨rfl, h2⟩))); focus (simp only [Act.put, pqA, pqS, pqZ]; try rfl))
            | (refine Dv.XT.last (i := 10) _ _ _ rfl rfl (by kernel_rfl) rfl rfl (fun vs wx hw hF => ?_) (fun v10 hv10 a' ha => ?_); (focus (go_simp); (with_reducible refine (HAPP.out wx hw).mono ?_); (rintro e w' ⟨rfl, hd, ho⟩); (exact ⟨rfl, hd, (Off.of_below hw HB.out).trans ho⟩)); obtain rfl := hv10; simp only [Act.put, pqA, pqS, pqZ] at ha; subst ha)
            | (refine Dv.Chain.skip' (a' := ?_) rfl rfl rfl ?_ ?_; rotate_left 1; focus (simp only [Act.put, pqA, pqS, pqZ]; try rfl)))
          refine Dv.XT.end_ (by decide) (fun vs w10 hv hfin => ?_)
          obtain ⟨k10, o10⟩ := hfin
          have l10 := LgAt.off HLA.out o10
          replace o10 := oA.trans (o10.wide dlt)
          have hE10 : EnvAt w10 := hE0.out.bel o10.bel hB4
          clear hv HLA HNM HAPP kA oA hEA HB
          by_cases hap0 : ap.1 = 0
          · have hap1 : Hid (ap.1 = 0) := hap0
            have e : Hid (r = ((ap.2.sync N).1, (ap.2.sync N).2, (⟨gA.limit, gA.seg, gA.size + S.length, (ap.2.sync N).1 == 8⟩ : Lg))) := by have := hrt.out; rwa [if_neg (fun h => h hap0)] at this
            clear hrt
            obtain ⟨sy, hsy⟩ : ∃ sy, sy = ap.2.sync N := ⟨_, rfl⟩
            rw [← hsy] at e
            have l10 : Blk w10 L 82 #[.pointer (some ⟨h.D, 0, none⟩), .int .i64 gA.limit, .int .i64 (gA.seg : Nat), .int .i64 (gA.size : Nat), .bool gA.broken] := l10
            obtain ⟨c0, c1, c2, c3, c4⟩ := Blk.c5 l10
            have f3 := l10.free 3
            have hzi : (gA.size : Int) ≤ 1000000000 := by omega
            go_upto_region 14 with fail
            have k11 := k10.other l10 ndk_log 3 (.int .i64 ((gA.size : Int) + (S.length : Int)))
            have o11 := o10.trans (Off.set l10 (.inr rfl) hL 3 (.int .i64 ((gA.size : Int) + (S.length : Int))))
            have l11 : LgAt (w10.setCell ⟨L, 3, none⟩ (.int .i64 ((gA.size : Int) + (S.length : Int)))) L h ⟨gA.limit, gA.seg, gA.size + S.length, gA.broken⟩ := by
              have := l10.set 3 (.int .i64 ((gA.size : Int) + (S.length : Int)))
              unfold LgAt
              simp only [Int.natCast_add]
              exact this
            obtain ⟨w11, hw11⟩ : ∃ w11, w11 = w10.setCell ⟨L, 3, none⟩ (.int .i64 ((gA.size : Int) + (S.length : Int))) := ⟨_, rfl⟩
            rw [← hw11] at k11 o11 l11 ⊢
            have hE11 : EnvAt w11 := hE0.out.bel o11.bel hB4
            clear hw11 l10 k10 o10 hE10 c0 c1 c2 c3 c4 f3
            have hnm := fun wx (hw : Below w11.heap.size w11 wx) => name_any wx (hE11.below hw) gA.seg (by omega)
            have hsync := fun wx (hw : Below w11.heap.size w11 wx) => dSync_any wx h ap.2 B (c + 1) (k11.below hw) hB haA (by omega) (by omega) N (by unfold maxLen; omega)
            rw [← hNN.out] at hnm
            simp only [← hsy] at hsync
            have hks : (⟨gA.limit, gA.seg, gA.size + S.length, gA.broken⟩ : Lg).broken = false := hkA.out
            have HSK := Lib.hid (fun wx (k : LgAt wx L h ⟨gA.limit, gA.seg, gA.size + S.length, gA.broken⟩) => sick_any wx L h _ sy.1 k hks)
            have HNM := Lib.hid hnm
            have HSY := Lib.hid hsync
            have HLA := Lib.hid l11
            have HB := Lib.hid (hiA k11 hB)
            clear hnm hsync hsy l11 hks
            have hstT : ∀ k v w w', Below w.heap.size w w' → Dv.factQ ([(4, ((fun v => v = (.pointer (some ⟨h.D, 0, none⟩))), noFact)), (8, ((fun v => v = (.int .i64 (gA.seg : Nat))), noFact)), (9, ((fun v => v = (.string (bs N))), noFact)), (10, ((fun v => v = (.int .i64 (sy.1 : Nat))), noFact)), (11, ((fun v => v = (.int .i64 (sy.1 : Nat))), noFact))] : List (Nat × Dv.Kq)) k v w → Dv.factQ ([(4, ((fun v => v = (.pointer (some ⟨h.D, 0, none⟩))), noFact)), (8, ((fun v => v = (.int .i64 (gA.seg : Nat))), noFact)), (9, ((fun v => v = (.string (bs N))), noFact)), (10, ((fun v => v = (.int .i64 (sy.1 : Nat))), noFact)), (11, ((fun v => v = (.int .i64 (sy.1 : Nat))), noFact))] : List (Nat × Dv.Kq)) k v w' := Dv.factQ_st (by
              simp only [List.forall_mem_cons, List.not_mem_nil, false_imp_iff, implies_true, and_true]
              exact ⟨fun _ _ _ _ _ => trivial, fun _ _ _ _ _ => trivial, fun _ _ _ _ _ => trivial, fun _ _ _ _ _ => trivial, fun _ _ _ _ _ => trivial⟩)
            refine Dv.wp_region_piv (L := ([(4, ((fun v => v = (.pointer (some ⟨h.D, 0, none⟩))), noFact)), (8, ((fun v => v = (.int .i64 (gA.seg : Nat))), noFact)), (9, ((fun v => v = (.string (bs N))), noFact)), (10, ((fun v => v = (.int .i64 (sy.1 : Nat))), noFact)), (11, ((fun v => v = (.int .i64 (sy.1 : Nat))), noFact))] : List (Nat × Dv.Kq))) (p := 10) (m := 11) (Mid := (FinDk B w11 h sy.2)) (Fin := (FinLg B w11 L h sy.2 ⟨gA.limit, gA.seg, gA.size + S.length, sy.1 == 8⟩)) (by kernel_rfl) 94 (by kernel_rfl) rfl (by kernel_rfl) (by kernel_rfl) ?_ ?_ ?_ ?_
            · simp only [List.forall_mem_cons, List.not_mem_nil, false_imp_iff, implies_true, and_true]
              exact ⟨⟨_, rfl⟩, ⟨_, rfl⟩, ⟨_, rfl⟩, ⟨_, rfl⟩, ⟨_, rfl⟩⟩
            · exact (fun vs vs' w' _ hf => hf)
            · exact (fun vs vs' w' _ hf => hf)
            repeat (first
              | (refine Dv.Chain.step (v := ?_) (a' := ?_) rfl rfl rfl ?_ ?_ ?_; rotate_left 2; (focus (intro w; go_simp; try with_reducible rfl)); focus (simp only [Act.put, pqA, pqS, pqZ]; try rfl))
              | (refine Dv.XP.make (i := 4) _ _ rfl (by decide) (by decide) (by kernel_rfl) hstT rfl rfl (fun wx hw hF => ?_) (fun v4 hv4 a' ha => ?_); (focus (obtain ⟨g0, g1, g2, g3, g4⟩ := Blk.c5 (LgAt.below HLA.out hw)); (go_simp); (first | exact ⟨Below.refl _ _, trivial⟩ | exact Below.refl _ _)); obtain rfl := hv4; simp only [Act.put, pqA, pqS, pqZ] at ha; subst ha)
              | (refine Dv.XP.make (i := 8) _ _ rfl (by decide) (by decide) (by kernel_rfl) hstT rfl rfl (fun wx hw hF => ?_) (fun v8 hv8 a' ha => ?_); (focus (obtain ⟨g0, g1, g2, g3, g4⟩ := Blk.c5 (LgAt.below HLA.out hw)); (go_simp); (first | exact ⟨Below.refl _ _, trivial⟩ | exact Below.refl _ _)); obtain rfl := hv8; simp only [Act.put, pqA, pqS, pqZ] at ha; subst ha)
              | (refine Dv.XP.make (i := 9) _ _ rfl (by decide) (by decide) (by kernel_rfl) hstT rfl rfl (fun wx hw hF => ?_) (fun v9 hv9 a' ha => ?_); (focus (go_simp); (with_reducible refine (HNM.out wx hw).mono ?_); (rintro e w' ⟨rfl, hb⟩); (first | exact ⟨rfl, hb, trivial⟩ | exact ⟨hb, trivial⟩)); obtain rfl := hv9; simp only [Act.put, pqA, pqS, pqZ] at ha; subst ha)
              | (refine Dv.XP.pivot (i := 10) _ _ rfl rfl (by decide) rfl rfl (fun vs wx hw hF => ?_) (fun v10 hv10 a' ha => ?_); (focus (go_simp); (with_reducible refine (HSY.out wx hw).mono ?_); (rintro e w' ⟨rfl, hd, ho⟩); (exact ⟨rfl, hd, (Off.of_below hw HB.out).trans ho⟩)); obtain rfl := hv10; simp only [Act.put, pqA, pqS, pqZ] at ha; subst ha)
              | (refine Dv.XP.last (i := 11) _ _ rfl rfl (by decide) (by kernel_rfl) rfl rfl (fun vs wx hM hF => ?_) (fun v11 hv11 a' ha => ?_); (focus (obtain ⟨kM, oM⟩ := hM); (have lM := LgAt.off HLA.out oM); (go_simp); (with_reducible refine (HSK.out wx lM).mono ?_); (rintro e w' ⟨rfl, rfl⟩); (exact ⟨rfl, kM.other lM ndk_log 4 _, Blk.set lM 4 _, (oM.wide dlt).trans (Off.set lM (.inr rfl) hL 4 _)⟩)); obtain rfl := hv11; simp only [Act.put, pqA, pqS, pqZ] at ha; subst ha)
              | (refine Dv.XP.skip (a' := ?_) rfl rfl rfl ?_ ?_; rotate_left 1; focus (simp only [Act.put, pqA, pqS, pqZ]; try rfl)))
            refine Dv.XP.end_ (by decide) (fun vs w12 hv hfin => ?_)
            obtain ⟨k12, l12, o12⟩ := hfin
            clear hv
            go_wp2_with fail
            go_ret
            rw [e.out]
            exact ⟨rfl, k12, l12, o11.trans o12⟩
          · have e : Hid (r = (ap.1, ap.2, (⟨gA.limit, gA.seg, gA.size, ap.1 == 8⟩ : Lg))) := by have := hrt.out; rwa [if_pos hap0] at this
            clear hrt
            have hap2 : ¬ (ap.1 : Int) = 0 := by omega
            have HSK := Lib.hid (sick_any w10 L h gA ap.1 l10 hkA.out)
            have HL := Lib.hid l10
            go_wp2_with (go_at_call 46; refine HSK.out.mono ?_; rintro e1 w11 ⟨rfl, rfl⟩)
            go_ret
            rw [e.out]
            exact ⟨rfl, k10.other HL.out ndk_log 4 _, Blk.set HL.out 4 _, o10.trans (Off.set HL.out (.inr rfl) hL 4 _)⟩
end Go.Proofs.YtcopknopifbebaaGreatDoor
