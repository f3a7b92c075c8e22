/-
  Layer 11 (wal): segments.
-/
import Derived.Test.YtcopknopifbebaaGreatDoorZShelf
import Derived.Sort.OwnSortedInts
import Derived.Test.YtcopknopifbebaaGreatDoorZLebM
import Derived.BigQuiet
import Derived.Deep.QuietTactic
import Derived.Test.YtcopknopifbebaaGreatDoorZLib3
import Derived.RegionTactic
import Derived.ChangeAlike
import Derived.Deep.RegionWith
import Derived.Deep.DeepCutAuto
import Derived.Deep.DrawnRows
import Derived.Handy
import Derived.Test.YtcopknopifbebaaGreatDoorZLib1
import Derived.Lib.Strings
import Derived.Test.YtcopknopifbebaaGreatDoorZLib4
import Derived.Deep.RegionLaw
import Derived.Test.YtcopknopifbebaaGreatDoorZLib16

namespace Go.Bar
open Go.RowKit Go.Sort Go.Proofs
theorem buf_sorted {w : World} {e : TypeId} {b o n c : Nat} {zs ts : List Int} (h : Buf w e 1 (.slice (some ⟨b, o, none⟩) n c) n (zs.map (Value.int .i64))) (hn : 0 < n) (hl : ts.length = zs.length) (q : Nat) (os : Array Obj) :
    Holds (Value.int .i64) w b o zs.toArray ∧ b < w.heap.size ∧ zs.length = n ∧ Buf (grow (putRow (Value.int .i64) (Sort.ahead w q) b o ts.toArray) os) e 1 (.slice (some ⟨b, o, none⟩) n c) n (ts.map (Value.int .i64)) := by
  have hz : zs.length = n := by have := h.1; rwa [List.length_map, Nat.mul_one] at this
  obtain ⟨b', o', c', he, hlt, hnc, hcells, hfr⟩ := h.at_ hn
  injection he with h1 _ h2
  injection h1 with h1
  injection h1 with h3 h4 _
  subst h2; subst h3; subst h4
  have hH : Holds (Value.int .i64) w b o zs.toArray := fun j hj => by
    have hj' : j < zs.length := by simpa using hj
    refine ⟨?_, hfr j (by omega)⟩
    rw [hcells j (by omega), List.getElem?_map, List.getElem?_eq_getElem hj']
    simp [hj']
  refine ⟨hH, hlt, hz, ?_⟩
  obtain ⟨hlen, A, c', hv, hnc', hcm, hb⟩ := h
  injection hv with h1 _ h2
  subst h1; subst h2
  obtain ⟨b', o', cur, fr, hA, hblk, hs, hf, hx⟩ := hb (by omega)
  injection hA with hA
  injection hA with h3 h4 _
  subst h3; subst h4
  refine ⟨by rw [List.length_map, hl, hz, Nat.mul_one], _, c, rfl, hnc', hcm, fun _ => ⟨b, o, putCells (Value.int .i64) o ts.toArray cur, fr, rfl, ?_, by simpa [putCells] using hs, hf, fun i hi => ?_⟩⟩
  · rw [heap_grow_old _ _ (by simpa using hlt)]
    simp [putRow, mapBlock, Sort.ahead, Array.getElem?_modify, hblk, onCells]
  · have hi2 : i < ts.length := by omega
    have := hx i hi
    rw [List.getElem?_map, List.getElem?_eq_getElem (by omega)] at this
    simp only [putCells, Array.getElem?_mapIdx, this]
    simp [hi2]
theorem sorted_below {w : World} {B b o q : Nat} {ts : List Int} {os : Array Obj} (hb : B ≤ b) (hw : B ≤ w.heap.size) : Below B w (grow (putRow (Value.int .i64) (Sort.ahead w q) b o ts.toArray) os) := by
  refine ⟨rfl, rfl, rfl, by simp, fun k hk => ?_⟩
  rw [heap_grow_old _ _ (by simp; omega)]
  have : b ≠ k := by omega
  simp [putRow, mapBlock, Sort.ahead, Array.getElem?_modify, this]
end Go.Bar
namespace Go.Bar.Wal
open Go.RowKit Go.Bar
def ns (l : List Nm) : List Nat := (l.map numN).filter fun n => decide (0 < n)
theorem ns_next {l : List Nm} {j : Nat} {s : Nm} (h : l[j]? = some s) : ns (l.take (j + 1)) = ns (l.take j) ++ (if 0 < numN s then [numN s] else []) := by
  unfold ns
  rw [List.take_add_one, h, Option.toList_some, List.map_append, List.filter_append, List.map_cons, List.map_nil, List.filter_cons, List.filter_nil]
  simp only [decide_eq_true_eq]
theorem ns_len (l : List Nm) : (ns l).length ≤ l.length := by
  unfold ns
  exact Nat.le_trans (List.length_filter_le _ _) (by rw [List.length_map]; exact Nat.le_refl _)
def ncs (l : List Nat) : List Value := l.map fun n : Nat => .int .i64 (n : Int)
theorem ncs_snoc (l : List Nat) (s : Nat) : ncs (l ++ [s]) = ncs l ++ [.int .i64 (s : Int)] := by unfold ncs; rw [List.map_append]; rfl
theorem ncs_eq (l : List Nat) : ncs l = (l.map fun n : Nat => (n : Int)).map (Value.int .i64) := by unfold ncs; rw [List.map_map]; rfl
theorem ncs_at {l : List Nat} {i : Nat} {s : Nat} (h : l[i]? = some s) : (ncs l)[i]? = some (.int .i64 (s : Int)) := by unfold ncs; rw [List.getElem?_map, h]; rfl
theorem sort_cast (l : List Nat) : (l.map fun n : Nat => (n : Int)).mergeSort (fun x y => decide (x ≤ y)) = (l.mergeSort fun x y => decide (x ≤ y)).map fun n : Nat => (n : Int) := by
  rw [List.map_mergeSort (s := fun x y => decide (x ≤ y)) (fun a _ b _ => by simp)]
end Go.Bar.Wal
namespace Go.Proofs.YtcopknopifbebaaGreatDoor
open Go.RowKit Go.Bar Go.Bar.Wal Go.Conc
attribute [local go_sem] Oper.semAt_some

theorem int_tyw : ElemTy Tryz.prog 38 3 (.int .i64 0) 1 8 :=
  ⟨Tryz.underlying38, info_parts (show (Tryz.prog.info? 3).map (fun i => (i.zero, i.size, i.bytes)) = some (some (.int .i64 0), 1, 8) by kernel_rfl), rfl⟩
theorem sortI_any {w0 w : World} {v : Value} {l : List Nat} (hb : NBuf w0 w 3 1 v l.length (ncs l)) (hl : l.length ≤ 1000000000) :
    Calls Tryz.prog 66 #[v] w fun e w' => e = .returned (.tuple #[]) ∧ NBuf w0 w' 3 1 v l.length (ncs (l.mergeSort fun x y => decide (x ≤ y))) := by
  obtain ⟨A, c, rfl, hlc, hcm⟩ := hb.slice.shape
  rcases Nat.eq_zero_or_pos l.length with h0 | h0
  · have hl0 : l = [] := List.length_eq_zero_iff.1 h0
    subst hl0
    refine (Tryz.slices_Sort_int_none A c w).mono ?_
    rintro e w' ⟨rfl, rfl⟩
    refine ⟨rfl, ?_⟩
    rw [show ([] : List Nat).mergeSort (fun x y => decide (x ≤ y)) = [] by simp]
    exact hb
  · obtain ⟨b, o, c', he, hlt, _⟩ := hb.buf.at_ h0
    injection he with h1 _ h2
    subst h1; subst h2
    have hbb := hb.buf
    rw [ncs_eq] at hbb
    have hs := fun q os => buf_sorted (ts := ((l.mergeSort fun x y => decide (x ≤ y)).map fun n : Nat => (n : Int))) hbb h0 (by rw [List.length_map, List.length_map, List.length_mergeSort]) q os
    have hc := Tryz.slices_Sort_int b o c (l.map fun n : Nat => (n : Int)) w (hs 0 #[]).1 hlt (by rw [List.length_map]; omega)
    rw [List.length_map] at hc
    refine hc.mono ?_
    rintro e w' ⟨rfl, q, os, rfl⟩
    rw [sort_cast]
    refine ⟨rfl, ?_, hb.below.trans (sorted_below (hb.new b rfl) hb.below.size), hb.new⟩
    rw [ncs_eq]
    exact (hs q os).2.2.2
set_option maxHeartbeats 4000000 in
set_option maxRecDepth 10000 in
theorem segments_any (w : World) (h : Hd) (d : Ds) (c : Nat) (k : DkAt w h d) (hE : EnvAt w) (ha : Acc c d) (hc : c ≤ 100000000) :
    Calls Tryz.prog 40 #[.pointer (some ⟨h.D, 0, none⟩)] w fun e w' => ∃ v, e = .returned v ∧ NBuf w w' 3 1 v (segsOf d).length (ncs (segsOf d)) := by
  have hlist := Lib.hid (dList_any w h d c k ha hc pre (by decide))
  have hnum := ha.num
  obtain ⟨L, hL⟩ : ∃ L, L = d.list pre := ⟨_, rfl⟩
  have hLn : L.length ≤ 100000000 := by
    rw [hL]
    unfold Ds.list
    exact Nat.le_trans (List.length_filter_le _ _) (by rw [List.length_map]; omega)
  have hnm : ∀ n ∈ L, n.length ≤ 40 := fun n hn => by
    rw [hL] at hn
    obtain ⟨q, hq, rfl⟩ := List.mem_map.1 (List.mem_filter.1 hn).1
    exact ha.nm q hq
  have hsg : segsOf d = (ns L).mergeSort (fun a b => decide (a ≤ b)) := by rw [hL]; rfl
  have hsl : ((ns L).mergeSort (fun a b => decide (a ≤ b))).length = (ns L).length := List.length_mergeSort _
  rw [hsg, hsl]
  rw [← hL] at hlist
  clear hsg hL hsl k ha
  replace hlist : Hid (Calls Tryz.prog 22 #[.pointer (some ⟨h.D, 0, none⟩), .string { data := #[119, 97, 108, 45] }] w fun e w' => ∃ v, e = .returned v ∧ Buf w' 9 1 v L.length (scs L) ∧ Below w.heap.size w w') := hlist
  go_enter Tryz.func40, Tryz.ntmps40
  go_wp2_with (go_at_call 22; refine hlist.out.mono ?_; rintro e w1 ⟨v, rfl, hbuf, hb1⟩; obtain ⟨A, cc, rfl, hlc, hcm⟩ := (SlAt.of_buf hbuf).shape; unfold maxLen at hcm)
  have HB := Lib.hid hb1
  clear hb1 hlist
  go_loopw [3, 10] (fun o i wr => ∃ j : Nat, i = .int .i64 (j : Nat) ∧ j ≤ L.length ∧ Hid (NBuf w1 wr 3 1 o (ns (L.take j)).length (ncs (ns (L.take j))))) (fun _ i _ => L.length - (intOf i).toNat)
  case atStart => exact ⟨0, rfl, Nat.zero_le _, NBuf.nil (Below.refl _ _) _ _⟩
  case round =>
    obtain ⟨j, rfl, hj, hb⟩ := hrel
    by_cases hjl : j < L.length
    · obtain ⟨s, hs⟩ : ∃ s, L[j]? = some s := ⟨_, List.getElem?_eq_getElem hjl⟩
      have hsl2 := (SlAt.of_buf hbuf).below hb.below
      obtain ⟨bb, oo, rfl, hlt, hcells⟩ := hsl2.cells (by omega)
      have hcell := hcells j _ (scs_at hs)
      have hsn := hnm s (List.mem_of_getElem? hs)
      have hnb := Lib.hid (number_any wr ((hE.below HB.out).below hb.below) s (by omega))
      have hnx := Lib.hid (ns_next hs)
      have hfl : (ns (L.take j)).length ≤ j := Nat.le_trans (ns_len _) (by rw [List.length_take]; omega)
      have hci : (0 : Int) ≤ (j : Int) := by omega
      have hci2 : (j : Int) < L.length := by omega
      have hb := Lib.hid hb
      obtain ⟨q, hq⟩ : ∃ q, q = numN s := ⟨_, rfl⟩
      rw [← hq] at hnb hnx
      clear hs hcells hsl2 hq
      by_cases h0 : 0 < q
      · have e : Hid (ns (L.take (j + 1)) = ns (L.take j) ++ [q]) := by have := hnx.out; rw [if_pos h0] at this; exact this
        clear hnx
        have h0i : (0 : Int) < (q : Int) := by omega
        go_wp2_with (first
          | (go_at_call 65; refine hnb.out.mono ?_; rintro e w2 ⟨rfl, hb2⟩; have hn2 := Lib.hid (hb.out.then_below hb2))
          | (at_builtin; refine wpList_append_nlit rfl (.tmp 18) (.tmp 20) 38 rfl int_tyw rfl hn2.out rfl (by simp) rfl (by simp [Value.oneCell']) (by simp only [maxLen]; omega) (by omega) ?_; intro v2 w3 hn3 ha3))
        go_roundw
        case rel => exact ⟨j + 1, by go_num, by omega, by rw [e.out, ncs_snoc, List.length_append]; exact hn3⟩
        case measure => simp [intOf]; omega
      · have e : Hid (ns (L.take (j + 1)) = ns (L.take j)) := by have := hnx.out; rw [if_neg h0, List.append_nil] at this; exact this
        have hq0 : q = 0 := by omega
        subst hq0
        clear hnx h0
        go_wp2_with (go_at_call 65; refine hnb.out.mono ?_; rintro e w2 ⟨rfl, hb2⟩; have hn2 := Lib.hid (hb.out.then_below hb2))
        go_roundw
        case rel => exact ⟨j + 1, by go_num, by omega, by rw [e.out]; exact hn2.out⟩
        case measure => simp [intOf]; omega
    · have he : j = L.length := by omega
      subst he
      rw [List.take_length] at hb
      clear hjl
      have hsrt := Lib.hid (sortI_any hb.out (Nat.le_trans (ns_len _) (by omega)))
      go_wp2_with (go_at_call 66; refine hsrt.out.mono ?_; rintro e w2 ⟨rfl, hn2⟩)
      go_ret
      exact ⟨_, rfl, hn2.after HB.out⟩
end Go.Proofs.YtcopknopifbebaaGreatDoor

namespace Go.Proofs.YtcopknopifbebaaGreatDoor
open Go.RowKit Go.Bar Go.Bar.Leb

set_option maxHeartbeats 400000 in
set_option maxRecDepth 10000 in
theorem takeUint_any (s : ByteArray) (w : World) (hs : s.size ≤ maxLen) :
    Calls Tryz.prog 92 #[.string s] w (Quiet w (.tuple #[.int .u64 (takeU s.data.toList).1, .string (bs (takeU s.data.toList).2.1), .int .i64 (takeU s.data.toList).2.2])) := by
  unfold maxLen at hs
  go_enter Tryz.func92, Tryz.ntmps92
  go_wp2
  go_loopw [5, 10] (fun v i wr => ∃ k acc : Nat, k ≤ s.size ∧ k ≤ 9 ∧ acc < 128 ^ k ∧ v = .int .u64 acc ∧ i = .int .i64 k ∧ wr = w ∧ tk k acc (s.data.toList.drop k) = takeU s.data.toList)
    (fun _ i _ => s.size - (intOf i).toNat)
  case atStart => exact ⟨0, 0, Nat.zero_le _, by omega, by simp, rfl, rfl, rfl, rfl⟩
  case round =>
    obtain ⟨k, acc, hk, hk9, hacc, rfl, rfl, rfl, htk⟩ := hrel
    have HT := Lib.hid htk
    clear htk
    by_cases hlt : k < s.size
    · rw [drop_cons s k hlt] at HT
      go_wp2
      case roundEnd =>
        have h9 : ¬ (k : Int) = 9 := by assumption
        have h1 : (128 : Int) ≤ s[k].toNat := by assumption
        refine ⟨⟨k + 1, _, by omega, by omega, acc_lt acc k _ hacc, by rw [acc_step acc k _ hacc hk9 (UInt8.toNat_lt _) (by omega) _ (by simp)], by go_num, trivial, ?_⟩, by simp [intOf]; omega⟩
        rw [← HT.out, tk_more (by omega) (by omega)]
      all_goals (try (go_quiet (fail); go_wp2))
      all_goals go_ret3
      all_goals first
        | exact Quiet.of (takeU_bad hlt HT (by omega)) ⟨0, rfl⟩
        | exact Quiet.of (takeU_last hlt hk9 hacc HT (by omega) (by omega) (by omega) _ _ _ (by omega) (by first | (simp; done) | (rw [show k = 9 by omega]; rfl)) (by omega)) ⟨_, rfl⟩
    · go_wp2
      go_ret3
      have e : s.data.toList.drop k = [] := List.drop_eq_nil_of_le (by rw [← size_eq]; omega)
      rw [← HT.out, e]
      exact Quiet.same

theorem takeUint_of {v e : Nat} {r : List UInt8} (s : ByteArray) (h : takeU s.data.toList = (v, r, e)) (w : World) (hs : s.size ≤ maxLen) :
    Calls Tryz.prog 92 #[.string s] w (Quiet w (.tuple #[.int .u64 v, .string (bs r), .int .i64 e])) := by
  have := takeUint_any s w hs
  rw [h] at this
  exact this

theorem bytes_ty : ByteTy Tryz.prog 65 5 :=
  ⟨Tryz.underlying65, Tryz.underlying5, info_parts (show (Tryz.prog.info? 5).map (fun i => (i.zero, i.size, i.bytes)) = some (some (.int .u8 0), 1, 1) by kernel_rfl)⟩

set_option maxHeartbeats 400000 in
set_option maxRecDepth 10000 in
theorem uint_any (V : Value) (xs : List UInt8) (n : Nat) (W : World) (hn : n < 18446744073709551616) (hx : xs.length + 10 ≤ 140737488355328) (hb : BBuf W 5 V xs) :
    Calls Tryz.prog 33 #[V, .int .u64 n] W (RetB W V 5 xs (u n)) := by
  have hul := u_len n hn
  go_enter Tryz.func33, Tryz.ntmps33
  go_wp2
  go_loopw [0, 1] (fun b m wr => ∃ (k : Nat) (ys : List UInt8), k < 18446744073709551616 ∧ m = .int .u64 k ∧ BApp W V 5 xs wr b ys ∧ ys ++ u k = u n) (fun _ m _ => (intOf m).toNat)
  case atStart => exact ⟨n, [], hn, rfl, BApp.start' hb, rfl⟩
  case round =>
    obtain ⟨k, ys, hk, rfl, happ, hys⟩ := hrel
    have HY := Lib.hid hys
    have hyl : ys.length + (u k).length ≤ 10 := by rw [← List.length_append, hys]; exact hul
    have hup := u_pos k
    clear hys
    by_cases hlt : 127 < k
    · go_wp2_with (at_builtin; refine wpList_append_byte rfl (.tmp 9) (.tmp 13) 65 rfl bytes_ty _ (byte_hi k) rfl happ rfl (by omega) ?_; intro v' w' happ'; clear happ)
      go_roundw
      case rel => exact ⟨k / 128, _, by omega, by go_num, happ', by rw [← HY.out, u_ge (n := k) (by omega), List.append_assoc]; rfl⟩
      case measure => simp [intOf]; omega
    · go_wp2_with (at_builtin; refine wpList_append_byte rfl (.tmp 15) (.tmp 18) 65 rfl bytes_ty _ (byte_lo k (by omega)) rfl happ rfl (by omega) ?_; intro v' w' happ'; clear happ)
      go_ret
      exact ⟨v', rfl, by rw [← HY.out, u_lt (by omega)]; exact happ'⟩

set_option maxHeartbeats 400000 in
theorem takeMost_any (s : ByteArray) (most : Int) (w : World) (hs : s.size ≤ maxLen) (h1 : -9223372036854775808 ≤ most) (h2 : most ≤ 9223372036854775807) :
    Calls Tryz.prog 74 #[.string s, .int .i64 most] w (Quiet w (.tuple #[.int .i64 (takeMost s.data.toList most).1, .string (bs (takeMost s.data.toList most).2.1), .int .i64 (takeMost s.data.toList most).2.2])) := by
  have hp := takeU_prop s.data.toList
  unfold takeMost
  obtain ⟨v, r, er, ht⟩ : ∃ v r er, takeU s.data.toList = (v, r, er) := ⟨_, _, _, rfl⟩
  have HT := Lib.hid ht
  rw [ht] at hp ⊢
  clear ht
  obtain ⟨hv, _, he⟩ := hp
  simp only [] at hv he ⊢
  rcases he with rfl | ⟨he, rfl, rfl⟩
  · by_cases hm : (max most 0).toNat < v
    · rw [if_pos ⟨rfl, hm⟩]
      go_enter Tryz.func74, Tryz.ntmps74
      go_wp2_with fail
      refine (takeUint_of s HT.out _ hs).mono ?_
      rintro e w' ⟨rfl, n, rfl⟩
      go_wp2_with fail
      all_goals go_ret3
      all_goals exact ⟨rfl, _, rfl⟩
    · rw [if_neg (fun h => hm h.2)]
      have hv2 : v ≤ 9223372036854775807 := by omega
      go_enter Tryz.func74, Tryz.ntmps74
      go_wp2_with fail
      refine (takeUint_of s HT.out _ hs).mono ?_
      rintro e w' ⟨rfl, n, rfl⟩
      go_wp2_with fail
      all_goals go_ret3
      all_goals exact ⟨rfl, _, rfl⟩
  · rw [if_neg (fun h => by omega)]
    have hb : ((er : Int) == 0) = false := by rw [beq_eq_false_iff_ne]; omega
    clear he
    go_enter Tryz.func74, Tryz.ntmps74
    go_wp2_with fail
    refine (takeUint_of s HT.out _ hs).mono ?_
    rintro e w' ⟨rfl, n, rfl⟩
    go_wp2_with fail
    all_goals go_ret3
    all_goals exact ⟨rfl, _, rfl⟩

theorem takeMost_of {v e : Nat} {r : List UInt8} (s : ByteArray) (most : Int) (h : takeMost s.data.toList most = (v, r, e)) (w : World) (hs : s.size ≤ maxLen) (h1 : -9223372036854775808 ≤ most) (h2 : most ≤ 9223372036854775807) :
    Calls Tryz.prog 74 #[.string s, .int .i64 most] w (Quiet w (.tuple #[.int .i64 v, .string (bs r), .int .i64 e])) := by
  have := takeMost_any s most w hs h1 h2
  rw [h] at this
  exact this

set_option maxHeartbeats 400000 in
theorem takeByte_none (s : ByteArray) (w : World) (h0 : s.data.toList = []) :
    Calls Tryz.prog 73 #[.string s] w (Quiet w (.tuple #[.int .u8 0, .string (bs []), .int .i64 2])) := by
  obtain rfl : s = bs [] := by rw [← bs_eta s, h0]
  clear h0
  have he : (bs []).toList.isEmpty = true := bs_isEmpty []
  go_enter Tryz.func73, Tryz.ntmps73
  go_wp2_with fail
  all_goals go_ret3
  all_goals exact ⟨rfl, 0, rfl⟩

set_option maxHeartbeats 400000 in
theorem takeByte_some (s : ByteArray) (w : World) (c : UInt8) (r : List UInt8) (hs : s.size ≤ maxLen) (h0 : s.data.toList = c :: r) :
    Calls Tryz.prog 73 #[.string s] w (Quiet w (.tuple #[.int .u8 c.toNat, .string (bs r), .int .i64 0])) := by
  obtain rfl : s = bs (c :: r) := by rw [← bs_eta s, h0]
  unfold maxLen at hs
  clear h0
  have hsz : (bs (c :: r)).size = r.length + 1 := rfl
  have he : (bs (c :: r)).toList.isEmpty = false := bs_isEmpty _
  go_enter Tryz.func73, Tryz.ntmps73
  go_wp2_with fail
  go_quiet (fail)
  go_wp2_with fail
  go_ret3
  refine ⟨?_, _, rfl⟩
  have e2 : (bs (c :: r)).extract 1 (r.length + 1) = bs r := by
    rw [bs_extract]
    simp
  rw [← e2]
  rfl

end Go.Proofs.YtcopknopifbebaaGreatDoor

namespace Go.Proofs.YtcopknopifbebaaGreatDoor
open Go.RowKit Go.Bar Go.Bar.Leb Go.Bar.Frm

theorem u32_low (c b k : Nat) (hc : c < 4294967296) (hb : b < 256) : bits .and .u32 (bits .xor .u32 (c : Int) ((b / 2 ^ k : Nat) : Int)) 1 = (((c + b / 2 ^ k) % 2 : Nat) : Int) := by
  have h1 : b / 2 ^ k < 256 := Nat.lt_of_le_of_lt (Nat.div_le_self _ _) hb
  rw [u32_xor_nat c _ hc (by omega)]
  have h2 := Nat.xor_lt_two_pow (n := 32) (x := c) (y := b / 2 ^ k) (by omega) (by omega)
  have := u32_and_nat (c ^^^ (b / 2 ^ k)) 1 h2 (by omega)
  rw [show ((1 : Nat) : Int) = 1 from rfl] at this
  rw [this, Nat.and_one_is_mod]
  congr 1
  have := @Nat.xor_mod_two_eq_one c (b / 2 ^ k)
  omega

theorem more_cast (b j : Nat) (hb : b < 256) : (b : Int) / 2 ^ j % 4294967296 = ((b / 2 ^ j : Nat) : Int) := by
  have h1 : b / 2 ^ j < 256 := Nat.lt_of_le_of_lt (Nat.div_le_self _ _) hb
  have e : (b : Int) / 2 ^ j = ((b / 2 ^ j : Nat) : Int) := by
    rw [Int.natCast_ediv, Int.natCast_pow]; rfl
  rw [e]
  clear e
  generalize b / 2 ^ j = x at *
  omega
theorem more_yes {C b j : Nat} (hC : C < 4294967296) (hb : b < 256) (h : (bits .and .u32 (bits .xor .u32 (C : Int) ((b : Int) / 2 ^ j % 4294967296)) 1 == 1) = true) :
    bits .xor .u32 ((C : Int) / 2) 2197175160 = ((bstep C (b / 2 ^ j) : Nat) : Int) := by
  rw [more_cast b j hb, u32_low C b j hC hb, beq_iff_eq] at h
  unfold bstep
  rw [if_pos (by omega)]
  have := u32_xor_nat (C / 2) 2197175160 (by omega) (by omega)
  rw [← this]
  rfl
theorem more_no {C b j : Nat} (hC : C < 4294967296) (hb : b < 256) (h : (bits .and .u32 (bits .xor .u32 (C : Int) ((b : Int) / 2 ^ j % 4294967296)) 1 == 1) = false) :
    (C : Int) / 2 = ((bstep C (b / 2 ^ j) : Nat) : Int) := by
  rw [more_cast b j hb, u32_low C b j hC hb, beq_eq_false_iff_ne] at h
  unfold bstep
  rw [if_neg (by omega)]
  rfl
theorem no_bits (n : Nat) (h : n < 4294967296) : bits .xor .u32 IntKind.u32.max (n : Int) = ((no n : Nat) : Int) := by
  have h1 := u32_xor_nat 4294967295 n (by omega) h
  have e : IntKind.u32.max = ((4294967295 : Nat) : Int) := rfl
  rw [e, h1]
  unfold no
  congr 1
  apply Nat.eq_of_testBit_eq
  intro i
  rw [Nat.testBit_xor]
  have h2 := Nat.testBit_two_pow_sub_succ (x := n) (n := 32) h i
  rw [show 2 ^ 32 - (n + 1) = 4294967295 - n by omega] at h2
  rw [h2]
  have h3 := Nat.testBit_two_pow_sub_one 32 i
  rw [show (2 : Nat) ^ 32 - 1 = 4294967295 from rfl] at h3
  rw [h3]
  by_cases hi : i < 32
  · simp [hi]
  · have := Nat.testBit_lt_two_pow (x := n) (i := i) (Nat.lt_of_lt_of_le h (show 4294967296 ≤ 2 ^ i from Nat.pow_le_pow_right (show 0 < 2 by decide) (show 32 ≤ i by omega)))
    simp [hi, this]

set_option maxHeartbeats 400000 in
set_option maxRecDepth 10000 in
theorem more_any (s : ByteArray) (n : Nat) (w : World) (hs : s.size ≤ maxLen) (hn : n < 4294967296) :
    Calls Tryz.prog 57 #[.int .u32 n, .string s] w fun e w' => e = .returned (.int .u32 (more n s.data.toList)) ∧ w = w' := by
  unfold maxLen at hs
  go_enter Tryz.func57, Tryz.ntmps57
  go_wp2
  go_loop [5, 13] (fun c i => ∃ k : Nat, k ≤ s.size ∧ i = .int .i64 k ∧ c = .int .u32 (crc (no n) (s.data.toList.take k))) (fun _ i => s.size - (intOf i).toNat)
  case atStart => exact ⟨0, Nat.zero_le _, rfl, by rw [no_bits n hn]; rfl⟩
  case round =>
    obtain ⟨k, hk, rfl, rfl⟩ := hrel
    have hC := crc_lt (s.data.toList.take k) (no_lt n)
    by_cases hlt : k < s.size
    · go_wp2
      go_loop [5, 16] (fun c i => ∃ j : Nat, j ≤ 8 ∧ i = .int .i64 j ∧ c = .int .u32 (bsteps j (crc (no n) (s.data.toList.take k)) s[k].toNat)) (fun _ i => 8 - (intOf i).toNat)
      case atStart => exact ⟨0, by omega, rfl, rfl⟩
      case round =>
        obtain ⟨j, hj, rfl, rfl⟩ := hrel
        have hD := bsteps_lt j (b := s[k].toNat) hC
        by_cases hj8 : j < 8
        · go_wp2
          all_goals
            go_round
            case rel => exact ⟨j + 1, by omega, by go_num, by first | rw [more_yes hD (UInt8.toNat_lt _) (by assumption)]; rfl | rw [more_no hD (UInt8.toNat_lt _) (by assumption)]; rfl⟩
            case measure => simp [intOf]; omega
        · obtain rfl : j = 8 := by omega
          have e := crc_snoc (s.data.toList.take k) s[k] (no n)
          have e2 : s.data.toList.take k ++ [s[k]] = s.data.toList.take (k + 1) := by
            rw [List.take_succ_eq_append_getElem (by simpa using hlt)]; rfl
          rw [e2] at e
          have HE := Lib.hid e
          clear e e2
          go_wp2
          go_round
          case rel => exact ⟨k + 1, by omega, by go_num, by rw [HE.out]⟩
          case measure => simp [intOf]; omega
    · go_wp2
      go_ret
      rw [no_bits _ hC, List.take_of_length_le (by rw [← size_eq]; omega)]
      exact ⟨rfl, rfl⟩

theorem more_of {m : Nat} (s : ByteArray) (n : Nat) (w : World) (hs : s.size ≤ maxLen) (hn : n < 4294967296) (h : more n s.data.toList = m) :
    Calls Tryz.prog 57 #[.int .u32 n, .string s] w fun e w' => e = .returned (.int .u32 m) ∧ w = w' := by
  rw [← h]
  exact more_any s n w hs hn

set_option maxHeartbeats 400000 in
theorem sum_any (s : ByteArray) (w : World) (hs : s.size ≤ maxLen) :
    Calls Tryz.prog 34 #[.string s] w fun e w' => e = .returned (.int .u32 (sum s.data.toList)) ∧ w = w' := by
  go_enter Tryz.func34, Tryz.ntmps34
  go_wp2_with fail
  refine (more_any s 0 _ hs (by omega)).mono ?_
  rintro e w' ⟨rfl, rfl⟩
  go_wp2_with fail
  go_ret
  exact ⟨rfl, rfl⟩

attribute [local go_sem ↓] Go.wp_at_zero Go.wp_at_succ

theorem byte4 (n : Nat) : bcs (sum4 n) = [.int .u8 ((n % 256 : Nat) : Int), .int .u8 ((n / 256 % 256 : Nat) : Int), .int .u8 ((n / 65536 % 256 : Nat) : Int), .int .u8 ((n / 16777216 % 256 : Nat) : Int)] := by
  simp [bcs, sum4]

theorem src4 {P : Program} {t e : TypeId} (hT : P.underlying t = some (.slice e)) (w : World) (n : Nat) (z0 z1 z2 z3 : Int) (h0 : z0 = ((n % 256 : Nat) : Int)) (h1 : z1 = ((n / 256 % 256 : Nat) : Int)) (h2 : z2 = ((n / 65536 % 256 : Nat) : Int)) (h3 : z3 = ((n / 16777216 % 256 : Nat) : Int)) :
    Src P 1 t (.slice (some ⟨w.heap.size, 0, none⟩) 4 4) (sum4 n).length (bcs (sum4 n)) (w.alloc (.cells #[.int .u8 z0, .int .u8 z1, .int .u8 z2, .int .u8 z3] e)) := by
  subst h0; subst h1; subst h2; subst h3
  refine Src.ofSlice _ hT _ _ _ _ rfl (fun j u hu => ?_) (fun u hu => ?_)
  · rw [byte4] at hu
    rw [addr_add, World.cell?_alloc_new, Nat.zero_add, ← hu]
    rcases j with _ | _ | _ | _ | j <;> rfl
  · simp only [bcs, List.mem_map] at hu
    obtain ⟨b, _, rfl⟩ := hu
    rfl

set_option maxHeartbeats 1000000 in
set_option maxRecDepth 10000 in
theorem append_any (V : Value) (xs : List UInt8) (k : UInt8) (d : ByteArray) (W : World) (hx : xs.length + 15 + d.size ≤ 140737488355328) (hb : BBuf W 5 V xs) :
    Calls Tryz.prog 47 #[V, .agg #[.int .u8 k.toNat, .string d]] W (RetB W V 5 xs (rec (k, d.data.toList))) := by
  have hul := u_len d.size (by omega)
  have hc1 := conv_one bytes_ty 9 Tryz.underlying9 (W.alloc (.cells #[.int .u8 k.toNat, .string d] 34)).drew (k.toNat : Int) k rfl
  rw [show (World.alloc (W.alloc (.cells #[.int .u8 k.toNat, .string d] 34)).drew (.cells #[.int .u8 k.toNat] 5)) = ((W.alloc (.cells #[.int .u8 k.toNat, .string d] 34)).alloc (.cells #[.int .u8 k.toNat] 5)).drew from rfl, show (W.alloc (.cells #[.int .u8 k.toNat, .string d] 34)).drew.heap.size = W.heap.size + 1 by simp] at hc1
  have hd : d.size ≤ maxLen := by unfold maxLen; omega
  have hs1 : (bs [k]).size ≤ maxLen := (by decide : 1 ≤ maxLen)
  have hs2 := sum_lt [k]
  have hrs : rsum (k, d.data.toList) < 4294967296 := sum_lt _
  go_enter Tryz.func47, Tryz.ntmps47
  go_upto_region 1 with fail
  go_cut [5] (fun s5 wx => s5 = .int .u32 (rsum (k, d.data.toList)) ∧ Below W.heap.size W wx ∧ W.heap.size < wx.heap.size ∧ wx.cell? ⟨W.heap.size, 0, none⟩ = some (.int .u8 k.toNat) ∧ wx.cell? ⟨W.heap.size, 1, none⟩ = some (.string d))
  case first =>
    go_region_with (first
      | (go_at_call 34; refine (sum_any (bs [k]) _ hs1).mono ?_; rintro e w' ⟨rfl, rfl⟩)
      | (go_at_call 57; refine (more_any d (sum [k]) _ hd hs2).mono ?_; rintro e w' ⟨rfl, rfl⟩))
    all_goals (go_wp2_with fail; go_meet; exact ⟨by rw [more_sum]; rfl, (((Below.refl _ _).alloc (Nat.le_refl _) _).alloc (by simp) _).drew, by simp; omega, by simp, by simp⟩)
  case rest =>
    obtain ⟨rfl, hbl, hsz, c0, c1⟩ := hcut
    clear hc1
    have hb0 := hb.below hbl
    have happ := BApp.start' hb0
    go_wp2_with (at_builtin; refine wpList_append_byte rfl (.tmp 14) (.tmp 17) 65 rfl bytes_ty _ rfl rfl happ rfl (by simp; omega) ?_; intro v1 w1 happ1; clear happ; have c1' := (happ1.cell_new hb (Nat.le_refl _) hsz).trans c1; clear c0 c1 hb0)
    refine (uint_any v1 (xs ++ [k]) d.size _ (by omega) (by rw [List.length_append]; simp; omega) happ1.buf).mono ?_
    rintro e w2 ⟨v2, rfl, happ2⟩
    have happ2 := happ1.trans happ2
    have c2 := (happ2.cell_new hb (Nat.le_refl _) hsz).trans (((happ1.cell_new hb (Nat.le_refl _) hsz).symm).trans c1')
    clear happ1 c1'
    have hsrc := src4 (P := Tryz.prog) Tryz.underlying65 w2 (rsum (k, d.data.toList)) ((rsum (k, d.data.toList) : Int) % 256) ((rsum (k, d.data.toList) : Int) / 256 % 256) ((rsum (k, d.data.toList) : Int) / 65536 % 256) ((rsum (k, d.data.toList) : Int) / 16777216) (by omega) (by omega) (by omega) (by omega)
    have HS := Lib.hid hsrc
    clear hsrc
    go_wp2_with (first
      | (at_builtin; refine wpList_append_src rfl (.tmp 25) (.tmp 37) 65 65 rfl bytes_ty rfl (happ2.alloc _) rfl HS.out (by simp [sum4_len]; omega) ?_; intro v3 w3 happ3; have c3 := (happ3.cell_new hb (Nat.le_refl _) hsz).trans (((happ2.cell_new hb (Nat.le_refl _) hsz).symm).trans c2); clear HS c2 happ2)
      | (at_builtin; refine wpList_append_str rfl (.tmp 39) (.tmp 41) 65 9 rfl bytes_ty Tryz.underlying9 d rfl happ3 rfl (by simp [sum4_len]; omega) ?_; intro v4 w4 happ4))
    go_ret
    exact ⟨v4, rfl, by
      have := happ4.after hbl hb
      have e : [] ++ [k] ++ u d.size ++ sum4 (rsum (k, d.data.toList)) ++ d.data.toList = rec (k, d.data.toList) := by simp [rec]
      rw [e] at this
      exact this⟩

end Go.Proofs.YtcopknopifbebaaGreatDoor

namespace Go.Proofs.YtcopknopifbebaaGreatDoor
open Go.RowKit Go.Bar Go.Bar.Leb Go.Bar.Frm

def recV (r : Rc) : Value := .agg #[.int .u8 r.1.toNat, .string (bs r.2)]
def nextV (x : Rc × List UInt8 × Nat) : Value := .tuple #[recV x.1, .string (bs x.2.1), .int .i64 x.2.2]

theorem or_shift (x b i : Nat) (h : x < 2 ^ i) : x ||| b * 2 ^ i = x + b * 2 ^ i := by
  have := Nat.two_pow_add_eq_or_of_lt h b
  rw [Nat.or_comm, Nat.mul_comm b, ← this, Nat.add_comm]
theorem num4_bits (a b c f : UInt8) (r : List UInt8) : bits .or .u32 (bits .or .u32 (bits .or .u32 ((a.toNat : Int) % 4294967296) ((b.toNat : Int) % 4294967296 * 256 % 4294967296)) ((c.toNat : Int) % 4294967296 * 65536 % 4294967296)) ((f.toNat : Int) % 4294967296 * 16777216 % 4294967296) = ((num4 (a :: b :: c :: f :: r) : Nat) : Int) := by
  have ha := UInt8.toNat_lt a
  have hb := UInt8.toNat_lt b
  have hc := UInt8.toNat_lt c
  have hf := UInt8.toNat_lt f
  simp only [num4, List.getD_cons_zero, List.getD_cons_succ]
  generalize a.toNat = x at *
  generalize b.toNat = y at *
  generalize c.toNat = z at *
  generalize f.toNat = v at *
  rw [show (x : Int) % 4294967296 = (x : Nat) by omega, show (y : Int) % 4294967296 * 256 % 4294967296 = ((y * 2 ^ 8 : Nat) : Int) by omega, show (z : Int) % 4294967296 * 65536 % 4294967296 = ((z * 2 ^ 16 : Nat) : Int) by omega, show (v : Int) % 4294967296 * 16777216 % 4294967296 = ((v * 2 ^ 24 : Nat) : Int) by omega]
  rw [u32_or_nat _ _ (by omega) (by omega), or_shift _ _ _ (by omega), u32_or_nat _ _ (by omega) (by omega), or_shift _ _ _ (by omega), u32_or_nat _ _ (by omega) (by omega), or_shift _ _ _ (by omega)]

set_option maxHeartbeats 1000000 in
set_option maxRecDepth 10000 in
theorem next_any (l : List UInt8) (w : World) (hs : l.length ≤ 9223372036854775807) :
    Calls Tryz.prog 51 #[.string (bs l)] w (RetBelow w (nextV (next l))) := by
  match l with
  | [] =>
    go_enter Tryz.func51, Tryz.ntmps51
    go_wp2_with fail
    refine (takeByte_none (bs []) _ rfl).mono ?_
    rintro e w' ⟨rfl, n, rfl⟩
    go_wp2_with fail
    go_returns
    exact ⟨rfl, ((below_drewN ((Below.refl _ _).alloc (Nat.le_refl _) _) _).setCell (by simp) _).setCell (by simp) _⟩
  | k :: l =>
    rw [List.length_cons] at hs
    obtain ⟨n, r, er, ht⟩ : ∃ n r er, takeMost l 1048576 = (n, r, er) := ⟨_, _, _, rfl⟩
    have hp := takeMost_prop l 1048576 (by omega)
    have hn1 : (takeMost l 1048576).2.2 = 0 → (takeMost l 1048576).1 ≤ 1048576 := takeMost_le l 1048576
    rw [next, ht]
    rw [ht] at hp hn1
    simp only at hp hn1 ⊢
    obtain ⟨hv, hrl, he⟩ := hp
    have HT := Lib.hid (show takeMost (bs l).data.toList 1048576 = (n, r, er) from ht)
    clear ht
    by_cases h1 : er ≠ 0
    · rw [if_pos h1]
      have hb : ((er : Int) != 0) = true := by rw [bne_iff_ne]; omega
      clear h1 he hn1
      go_enter Tryz.func51, Tryz.ntmps51
      go_wp2_with fail
      refine (takeByte_some (bs (k :: l)) _ k l (by rw [bs_size]; unfold maxLen; simp; omega) rfl).mono ?_
      rintro e w' ⟨rfl, n1, rfl⟩
      go_wp2_with fail
      refine (takeMost_of (bs l) 1048576 HT.out _ (by rw [bs_size]; unfold maxLen; omega) (by omega) (by omega)).mono ?_
      rintro e w' ⟨rfl, n2, rfl⟩
      go_wp2_with fail
      go_returns
      exact ⟨rfl, ((below_drewN ((Below.refl _ _).alloc (Nat.le_refl _) _) _).setCell (by simp) _).setCell (by simp) _⟩
    · rw [if_neg h1]
      obtain rfl : er = 0 := by omega
      have hn2 := hn1 rfl
      clear h1 he hn1
      by_cases h2 : r.length < 4 + n
      · rw [if_pos h2]
        go_enter Tryz.func51, Tryz.ntmps51
        go_wp2_with fail
        refine (takeByte_some (bs (k :: l)) _ k l (by rw [bs_size]; unfold maxLen; simp; omega) rfl).mono ?_
        rintro e w' ⟨rfl, n1, rfl⟩
        go_wp2_with fail
        refine (takeMost_of (bs l) 1048576 HT.out _ (by rw [bs_size]; unfold maxLen; omega) (by omega) (by omega)).mono ?_
        rintro e w' ⟨rfl, n2, rfl⟩
        go_wp2_with fail
        go_returns
        exact ⟨rfl, ((below_drewN ((Below.refl _ _).alloc (Nat.le_refl _) _) _).setCell (by simp) _).setCell (by simp) _⟩
      · rw [if_neg h2]
        obtain ⟨d, hd⟩ : ∃ d, d = (r.drop 4).take n := ⟨_, rfl⟩
        rw [← hd]
        have h5 : 4 ≤ r.length := by omega
        obtain ⟨a, b, c, f, r', rfl⟩ : ∃ a b c f r', r = a :: b :: c :: f :: r' := by
          match r, h5 with
          | a :: b :: c :: f :: r', _ => exact ⟨a, b, c, f, r', rfl⟩
        have h4 : n ≤ r'.length := by simp at h2; omega
        have hsz : (bs (a :: b :: c :: f :: r')).size = r'.length + 4 := rfl
        have hr4 : r'.length + 4 ≤ l.length := by simpa using hrl
        have hi0 := index_bs Tryz.underlying9 .i64 (a :: b :: c :: f :: r') 0 0 a rfl rfl
        have hi1 := index_bs Tryz.underlying9 .i64 (a :: b :: c :: f :: r') 1 1 b rfl rfl
        have hi2 := index_bs Tryz.underlying9 .i64 (a :: b :: c :: f :: r') 2 2 c rfl rfl
        have hi3 := index_bs Tryz.underlying9 .i64 (a :: b :: c :: f :: r') 3 3 f rfl rfl
        have HN := Lib.hid (num4_bits a b c f r')
        have hdl : d.length ≤ 1048576 := by rw [hd]; exact Nat.le_trans (List.length_take_le _ _) hn2
        have hx1 : (bs (k :: l)).extract 0 1 = bs [k] := bs_extract _ _ _
        have hx2 : (bs (a :: b :: c :: f :: r')).extract 4 (4 + n) = bs d := by rw [bs_extract, hd, Nat.add_sub_cancel_left]
        have hS : ∀ w, Calls Tryz.prog 34 #[.string ((bs (k :: l)).extract 0 1)] w fun e w' => e = .returned (.int .u32 (sum [k])) ∧ w = w' := fun w => by
          rw [hx1]; exact sum_any (bs [k]) w (by decide : 1 ≤ maxLen)
        have hM : ∀ w, Calls Tryz.prog 57 #[.int .u32 (sum [k]), .string ((bs (a :: b :: c :: f :: r')).extract 4 (4 + n))] w fun e w' => e = .returned (.int .u32 (rsum (k, d))) ∧ w = w' := fun w => by
          rw [hx2]; exact more_of (bs d) (sum [k]) w (by rw [bs_size]; unfold maxLen; omega) (sum_lt _) (more_sum [k] d)
        have HS := Lib.hid hS
        have HM := Lib.hid hM
        have HX := Lib.hid hx2
        clear h2 hd h5 hrl hS hM hx1 hx2
        have step : ∀ (bb : Bool) (v : Value), (((rsum (k, d) : Nat) : Int) != bits .or .u32 (bits .or .u32 (bits .or .u32 ((a.toNat : Int) % 4294967296) ((b.toNat : Int) % 4294967296 * 256 % 4294967296)) ((c.toNat : Int) % 4294967296 * 65536 % 4294967296)) ((f.toNat : Int) % 4294967296 * 16777216 % 4294967296)) = bb →
            Hid ((bb = true → v = nextV (z, [], 4)) ∧ (bb = false → v = nextV ((k, d), (a :: b :: c :: f :: r').drop (4 + n), 0))) → Calls Tryz.prog 51 #[.string (bs (k :: l))] w (RetBelow w v) := by
          intro bb v hbb hv
          go_enter Tryz.func51, Tryz.ntmps51
          go_wp2_with fail
          refine (takeByte_some (bs (k :: l)) _ k l (by rw [bs_size]; unfold maxLen; simp; omega) rfl).mono ?_
          rintro e w' ⟨rfl, n1, rfl⟩
          go_wp2_with fail
          refine (takeMost_of (bs l) 1048576 HT.out _ (by rw [bs_size]; unfold maxLen; omega) (by omega) (by omega)).mono ?_
          rintro e w' ⟨rfl, n2, rfl⟩
          go_wp2_with fail
          go_quiet (fail)
          go_wp2_with fail
          refine (HS.out _).mono ?_
          rintro e w' ⟨rfl, rfl⟩
          go_wp2_with fail
          refine (HM.out _).mono ?_
          rintro e w' ⟨rfl, rfl⟩
          clear hi0 hi1 hi2 hi3
          have hw4 : IntKind.i64.wrap (4 + (n : Int)) = 4 + (n : Int) := IntWalk.i64_in _ ⟨by omega, by omega⟩
          have hp4 : (0 : Int) ≤ 4 + (n : Int) := by omega
          rcases bb with _ | _
          · obtain rfl : v = nextV ((k, d), (a :: b :: c :: f :: r').drop (4 + n), 0) := by simpa using hv.out.2
            clear hv
            go_wp2_with fail
            go_region
            all_goals go_wp2_with fail
            all_goals go_returns
            all_goals
              have HY : (bs (a :: b :: c :: f :: r')).extract (4 + n) (r'.length + 4) = bs ((a :: b :: c :: f :: r').drop (4 + n)) := by
                rw [bs_extract, List.take_of_length_le (by rw [List.length_drop]; simp)]
              exact ⟨by rw [HX.out, HY]; rfl, ((below_drewN ((Below.refl _ _).alloc (Nat.le_refl _) _) _).setCell (by simp) _).setCell (by simp) _⟩
          · obtain rfl : v = nextV (z, [], 4) := by simpa using hv.out.1
            clear hv
            go_wp2_with fail
            go_returns
            exact ⟨rfl, ((below_drewN ((Below.refl _ _).alloc (Nat.le_refl _) _) _).setCell (by simp) _).setCell (by simp) _⟩
        by_cases h3 : rsum (k, d) = num4 (a :: b :: c :: f :: r')
        · rw [if_neg (fun h => h h3)]
          refine step false _ ?_ ⟨fun h => (by cases h), fun _ => rfl⟩
          rw [HN.out, h3]
          simp
        · rw [if_pos h3]
          refine step true _ ?_ ⟨fun _ => rfl, fun h => (by cases h)⟩
          rw [HN.out, bne_iff_ne]
          omega

theorem next_of {l r d : List UInt8} {k : UInt8} {er : Nat} (h : next l = ((k, d), r, er)) (w : World) (hs : l.length ≤ 9223372036854775807) :
    Calls Tryz.prog 51 #[.string (bs l)] w (RetBelow w (.tuple #[.agg #[.int .u8 k.toNat, .string (bs d)], .string (bs r), .int .i64 er])) := by
  have := next_any l w hs
  rw [h] at this
  exact this

def frcs (rs : List Rc) : List Value := rs.flatMap fun r => [.int .u8 r.1.toNat, .string (bs r.2)]
theorem frcs_snoc (rs : List Rc) (k : UInt8) (d : List UInt8) : frcs (rs ++ [(k, d)]) = frcs rs ++ [.int .u8 k.toNat, .string (bs d)] := by simp [frcs]
theorem rec_ty : ElemTy Tryz.prog 23 34 (.agg #[.int .u8 0, .string ByteArray.empty]) 2 24 :=
  ⟨Tryz.underlying23, info_parts (show (Tryz.prog.info? 34).map (fun i => (i.zero, i.size, i.bytes)) = some (some (.agg #[.int .u8 0, .string ByteArray.empty]), 2, 24) by kernel_rfl), rfl⟩

def lenOf : Value → Nat
  | .string s => s.size
  | _ => 0

def RetAll (w : World) (e : TypeId) (rs : List Rc) (n : Int) (en : Ending) (w' : World) : Prop :=
  ∃ v, en = .returned (.tuple #[v, .int .i64 n]) ∧ Buf w' e 2 v rs.length (frcs rs) ∧ Below w.heap.size w w'

set_option maxHeartbeats 1000000 in
set_option maxRecDepth 10000 in
theorem all_any (l : List UInt8) (w : World) (hs : l.length ≤ 1000000000000) :
    Calls Tryz.prog 24 #[.string (bs l)] w (RetAll w 34 (recs l) ((l.length : Int) - ((left l).length : Nat))) := by
  have hll := left_le l
  go_enter Tryz.func24, Tryz.ntmps24
  go_wp2_with fail
  go_loopw [4, 5] (fun v s wr => ∃ (rs : List Rc) (m : List UInt8), s = .string (bs m) ∧ rs.length * 6 + m.length ≤ l.length ∧ App w (.slice none 0 0) 34 2 0 [] wr v rs.length (frcs rs) ∧ Hid (rs ++ recs m = recs l ∧ left m = left l))
    (fun _ s _ => lenOf s)
  case atStart => exact ⟨[], l, rfl, by simp, App.start' (Buf.nil w _ _), rfl, rfl⟩
  case round =>
    obtain ⟨rs, m, rfl, hlen, happ, hr⟩ := hrel
    obtain ⟨k, d, r, er, hn⟩ : ∃ k d r er, next m = ((k, d), r, er) := ⟨_, _, _, _, rfl⟩
    have HN := Lib.hid hn
    by_cases he : er = 0
    · subst he
      have h6 := next_left m (by rw [hn])
      have hg := recs_go (l := m) (by rw [hn])
      rw [hn] at h6 hg
      simp only at h6 hg
      have HG := Lib.hid hg
      clear hg hn
      go_wp2_with fail
      refine (next_of HN.out _ (by omega)).mono ?_
      rintro e w1 ⟨rfl, hb1⟩
      have happ1 := happ.below hb1
      clear happ hb1
      go_wp2_with (at_builtin; refine wpList_append_lit rfl (.tmp 24) (.tmp 26) 23 rfl rec_ty rfl (happ1.alloc _) rfl (by simp) rfl (by simp [Value.oneCell']) (by simp only [maxLen]; omega) (by omega) ?_; intro v2 w2 happ2)
      go_roundw
      case rel => exact ⟨rs ++ [(k, d)], r, rfl, by simp; omega, by rw [frcs_snoc, List.length_append]; exact happ2, by rw [← hr.out.1, HG.out.1]; simp, by rw [← hr.out.2, HG.out.2]⟩
      case measure => simp only [lenOf, bs_size]; omega
    · have hg := recs_stop (l := m) (by rw [hn]; exact he)
      have hb : ((er : Int) != 0) = true := by rw [bne_iff_ne]; omega
      have HG := Lib.hid hg
      clear hg hn he
      go_wp2_with fail
      refine (next_of HN.out _ (by omega)).mono ?_
      rintro e w1 ⟨rfl, hb1⟩
      have happ1 := happ.below hb1
      clear happ hb1
      go_wp2_with fail
      go_ret2
      have e1 : rs = recs l := by rw [← hr.out.1, HG.out.1, List.append_nil]
      have e2 : m = left l := by rw [← hr.out.2, HG.out.2]
      have hbuf := (happ1.alloc (.cells #[.int .u8 k.toNat, .string (bs d)] 34)).buf
      rw [Nat.zero_add, List.nil_append] at hbuf
      subst e1
      exact ⟨_, by rw [← e2]; rfl, hbuf, (happ1.alloc _).below_nil⟩

end Go.Proofs.YtcopknopifbebaaGreatDoor

namespace Go.Proofs.YtcopknopifbebaaGreatDoor
open Go.RowKit Go.Bar

set_option maxHeartbeats 400000 in
theorem cut_any (s : ByteArray) (n : Int) (w : World) (h : 0 ≤ n) (h2 : n ≤ 100000) (hs : s.size ≤ maxLen) :
    Calls Tryz.prog 31 #[.string s, .int .i64 n] w fun e w' => e = .returned (.string (bs (s.data.toList.take n.toNat))) ∧ w = w' := by
  unfold maxLen at hs
  have e1 : s.extract 0 n.toNat = bs (s.data.toList.take n.toNat) := bs_extract s.data.toList 0 n.toNat
  by_cases hn : n < s.size
  · have HE := Lib.hid e1
    clear e1
    go_enter Tryz.func31, Tryz.ntmps31
    go_wp2
    go_ret
    rw [← HE.out]
    exact ⟨rfl, rfl⟩
  · have e2 : bs (s.data.toList.take n.toNat) = s := by rw [List.take_of_length_le (by rw [← size_eq]; omega)]; rfl
    have HE := Lib.hid e2
    clear e1 e2
    go_enter Tryz.func31, Tryz.ntmps31
    go_wp2
    go_ret
    rw [HE.out]
    exact ⟨rfl, rfl⟩

end Go.Proofs.YtcopknopifbebaaGreatDoor

namespace Go.Proofs.YtcopknopifbebaaGreatDoor
open Go.RowKit Go.Bar Go.Bar.Leb Go.Bar.Frm

def RecsAt (w : World) (v : Value) (rs : List Rc) : Prop := SlAt w 2 v rs.length (frcs rs)
theorem RecsAt.below {w w' : World} {v : Value} {rs : List Rc} (h : RecsAt w v rs) (hb : Below w.heap.size w w') : RecsAt w' v rs := SlAt.below h hb
theorem RecsAt.shape {w : World} {v : Value} {rs : List Rc} (h : RecsAt w v rs) : ∃ A c, v = .slice A rs.length c ∧ rs.length ≤ c ∧ c ≤ maxLen := SlAt.shape h
theorem RecsAt.at_ {w : World} {A : Option Addr} {n c i : Nat} {rs : List Rc} {k : UInt8} {d : List UInt8} (h : RecsAt w (.slice A n c) rs) (hi : rs[i]? = some (k, d)) : ∃ b o, A = some ⟨b, o, none⟩ ∧ b < w.heap.size ∧ w.cell? ⟨b, o + i * 2, none⟩ = some (.int .u8 k.toNat) ∧ w.cell? ⟨b, o + i * 2 + 1, none⟩ = some (.string (bs d)) := by
  have hlt : i < rs.length := (List.getElem?_eq_some_iff.1 hi).1
  obtain ⟨A', c', he, _⟩ := h.shape
  injection he with h1 h2 h3
  subst h1; subst h2; subst h3
  obtain ⟨b, o, rfl, hb, hc⟩ := SlAt.cells h (by omega)
  obtain ⟨g1, g2⟩ := flat2 (fun r : Rc => Value.int .u8 r.1.toNat) (fun r => .string (bs r.2)) rs i _ hi
  exact ⟨b, o, rfl, hb, hc _ _ g1, hc _ _ g2⟩
theorem rcs_length (rs : List Rc) : (frcs rs).length = rs.length * 2 := flat2_length _ _ rs
theorem rcs_take (rs : List Rc) (k : Nat) : (frcs rs).take (k * 2) = frcs (rs.take k) := flat2_take _ _ rs k

set_option maxRecDepth 100000 in
open Go.ChangeShapes Go.WideShapes Go.Deep in
theorem open_recs {H : Type} {enc : TypeId × Value → H} {W : World} {base b0 : Nat} {spare : Nat → Bool} {held : Bool} {r : Reach} {v : Value} {d : DataW H} {p : List MemPlace} (hval : Value.okWide Tryz.prog W r b0 23 v)
    (h : DataW.Trod enc Tryz.prog W base spare held 23 v d p) : ∃ rs, RecsAt W v rs ∧ ∀ r ∈ rs, r.2.length ≤ maxLen := by
  obtain ⟨A, n, c, rfl, hnc, hcm, hx⟩ := open_slice_fields Tryz.underlying23 Tryz.underlying34 (by kernel_rfl) (by kernel_rfl) (Nat.zero_lt_succ 1 : 0 < 2) hval h
  rcases Nat.eq_zero_or_pos n with h0 | h0
  · subst h0
    exact ⟨[], ⟨rfl, A, c, rfl, hnc, hcm, fun h => absurd h (by simp)⟩, by simp⟩
  · obtain ⟨b, o, rfl, hb, hf⟩ := hx h0
    obtain ⟨rs, hl, ht⟩ := list_of (fun i (r : Rc) => W.cell? ⟨b, o + i * 2, none⟩ = some (.int .u8 r.1.toNat) ∧ W.cell? ⟨b, o + i * 2 + 1, none⟩ = some (.string (bs r.2)) ∧ r.2.length ≤ maxLen) n (fun i hi => by
      obtain ⟨x0, y0, k0, c0, t0⟩ := hf i hi 0 _ rfl
      obtain ⟨x1, y1, k1, c1, t1⟩ := hf i hi 1 _ rfl
      obtain ⟨n0, e0, _, w0⟩ := DataW.trod_int Tryz.underlying5 t0
      obtain ⟨s1, e1, e2, ws⟩ := DataW.trod_string Tryz.underlying9 t1
      replace e0 : x0 = _ := (List.cons.inj e0).1
      replace e1 : x1 = _ := (List.cons.inj e1).1
      have b0 := bounds_u8 w0
      subst e0; subst e1
      refine ⟨(UInt8.ofNat n0.toNat, s1.data.toList), ?_, ?_, ?_⟩
      · rw [show ((UInt8.ofNat n0.toNat).toNat : Int) = n0 by simp; omega]; exact c0
      · rw [Nat.add_assoc]; exact c1
      · exact ws)
    refine ⟨rs, ⟨rcs_length rs, some ⟨b, o, none⟩, c, by rw [hl], by rw [hl]; exact hnc, hcm, fun _ => ⟨b, o, rfl, hb, fun j hj => ?_⟩⟩, fun r hr => by obtain ⟨i, hi⟩ := List.mem_iff_getElem?.1 hr; exact (ht i r hi).2.2⟩
    have hlt : j / 2 < rs.length := by omega
    have hg := List.getElem?_eq_getElem hlt
    obtain ⟨g0, g1, _⟩ := ht _ _ hg
    obtain ⟨f0, f1⟩ := flat2 (fun r : Rc => Value.int .u8 r.1.toNat) (fun r => .string (bs r.2)) rs (j / 2) _ hg
    rcases Nat.mod_two_eq_zero_or_one j with hm | hm
    · have e : j / 2 * 2 = j := by omega
      rw [e] at g0 f0
      exact g0.trans f0.symm
    · have e : j / 2 * 2 + 1 = j := by omega
      rw [Nat.add_assoc, e] at g1
      rw [e] at f1
      exact g1.trans f1.symm

attribute [local go_sem ↓] Go.wp_at_zero Go.wp_at_succ

def few (rs : List Rc) : List Rc := (rs.take 6).map fun r => (r.1, r.2.take 60)

def RetRecs (w : World) (rs : List Rc) (en : Ending) (w' : World) : Prop :=
  ∃ v, en = .returned v ∧ Buf w' 34 2 v rs.length (frcs rs) ∧ Below w.heap.size w w'

theorem int_ty : ElemTy Tryz.prog 38 3 (.int .i64 0) 1 8 :=
  ⟨Tryz.underlying38, info_parts (show (Tryz.prog.info? 3).map (fun i => (i.zero, i.size, i.bytes)) = some (some (.int .i64 0), 1, 8) by kernel_rfl), rfl⟩

def ends (rs : List Rc) : List Nat := (List.range rs.length).map fun i => (laid (rs.take (i + 1))).length
theorem ends_length (rs : List Rc) : (ends rs).length = rs.length := by simp [ends]
theorem ends_next {rs : List Rc} {k : Nat} (h : k < rs.length) : ends (rs.take (k + 1)) = ends (rs.take k) ++ [(laid (rs.take (k + 1))).length] := by
  unfold ends
  rw [List.length_take, Nat.min_eq_left (by omega), List.length_take, Nat.min_eq_left (by omega), List.range_succ, List.map_append]
  simp only [List.map_cons, List.map_nil, List.take_take, Nat.min_self]
  congr 1
  refine List.map_congr_left fun i hi => ?_
  rw [List.mem_range] at hi
  rw [Nat.min_eq_left (by omega), Nat.min_eq_left (by omega)]
def ics (l : List Nat) : List Value := l.map fun n : Nat => .int .i64 (n : Int)
theorem ics_append (l m : List Nat) : ics (l ++ m) = ics l ++ ics m := List.map_append
theorem laid_next {rs : List Rc} {k : Nat} {r : Rc} (h : rs[k]? = some r) : laid (rs.take (k + 1)) = laid (rs.take k) ++ rec r := by
  rw [List.take_add_one, h]
  exact laid_snoc _ _
theorem rec_short (r : Rc) (h : r.2.length ≤ 60) : (rec r).length ≤ 75 := by
  rw [rec_len]
  have := u_len r.2.length (by omega)
  omega
theorem laid_short : ∀ (rs : List Rc), (∀ r ∈ rs, r.2.length ≤ 60) → (laid rs).length ≤ 75 * rs.length
  | [], _ => by simp [laid]
  | r :: rs, h => by
    have h1 := rec_short r (h r (by simp))
    have h2 := laid_short rs (fun r hr => h r (by simp [hr]))
    rw [laid_cons, List.length_append, List.length_cons]
    omega

def RetLaid (w : World) (rs : List Rc) (en : Ending) (w' : World) : Prop :=
  ∃ v, en = .returned (.tuple #[.string (bs (laid rs)), v]) ∧ NBuf w w' 3 1 v (ends rs).length (ics (ends rs))

set_option maxHeartbeats 1000000 in
set_option maxRecDepth 10000 in
theorem laid_any (v : Value) (rs : List Rc) (w : World) (h : RecsAt w v rs) (hn : rs.length ≤ 6) (hs : ∀ r ∈ rs, r.2.length ≤ 60) : Calls Tryz.prog 21 #[v] w (RetLaid w rs) := by
  obtain ⟨A, c, rfl, hlc, hcm⟩ := h.shape
  unfold maxLen at hcm
  go_enter Tryz.func21, Tryz.ntmps21
  go_wp2_with fail
  go_loopw [4, 5, 11] (fun b s i wr => ∃ k : Nat, k ≤ rs.length ∧ i = .int .i64 k ∧ NBuf w wr 5 1 b (laid (rs.take k)).length (bcs (laid (rs.take k))) ∧ NBuf w wr 3 1 s (ends (rs.take k)).length (ics (ends (rs.take k)))) (fun _ _ i _ => rs.length - (intOf i).toNat)
  case atStart => 
    have e1 : ends (rs.take 0) = [] := by simp [ends]
    have e2 : laid (rs.take 0) = [] := by simp [laid]
    exact ⟨0, Nat.zero_le _, rfl, by rw [e2]; exact (NBuf.nil (Below.refl _ _) _ _).alloc _, by rw [e1]; exact NBuf.lit0 (Below.refl _ _) _ _⟩
  case round =>
    obtain ⟨k, hk, rfl, hb, he⟩ := hrel
    by_cases hgo : k < rs.length
    · obtain ⟨⟨kd, d⟩, hki⟩ : ∃ r, rs[k]? = some r := ⟨_, List.getElem?_eq_getElem hgo⟩
      have hd := hs _ (List.mem_of_getElem? hki)
      simp only at hd
      have hl := laid_short (rs.take k) (fun r hr => hs r (List.mem_of_mem_take hr))
      have hl2 := laid_short (rs.take (k + 1)) (fun r hr => hs r (List.mem_of_mem_take hr))
      rw [List.length_take] at hl hl2
      obtain ⟨b, o, rfl, hlt, c0, c1⟩ := (h.below hb.below).at_ hki
      have H1 := Lib.hid (laid_next hki)
      have H2 := Lib.hid (ends_next hgo)
      have hen : (ends (rs.take k)).length ≤ 6 := by rw [ends_length, List.length_take]; omega
      clear hki
      go_wp2_with fail
      refine (append_any _ (laid (rs.take k)) kd (bs d) _ (by rw [bs_size]; omega) (hb.alloc _).buf).mono ?_
      rintro e w2 ⟨v2, rfl, hap⟩
      have hb2 := (hb.alloc _).step hap.buf (App.ap hap) (App.grew hap)
      have he2 := (he.alloc _).keep (hb.alloc _) (App.ap hap) (by decide)
      rw [bs_data] at hb2
      have hsh := hb2.buf.shape
      rw [← H1.out] at hb2 hsh
      obtain ⟨A2, c2, rfl, hc2⟩ := hsh
      clear hap hb he
      go_wp2_with (at_builtin; refine wpList_append_nlit rfl (.tmp 18) (.tmp 21) 38 rfl int_ty rfl he2 rfl (by simp) rfl (by simp [Value.oneCell']) (by simp only [maxLen]; omega) (by omega) ?_; intro v3 w3 he3 hap3)
      have hb3 := (hb2.alloc _).keep (he2.alloc _) hap3 (by decide)
      go_roundw
      case rel => exact ⟨k + 1, by omega, by go_num, hb3, by rw [H2.out, List.length_append, ics_append]; exact he3⟩
      case measure => simp [intOf]; omega
    · rw [List.take_of_length_le (by omega)] at hb he
      have hcv := BBuf.string (l := laid rs) bytes_ty hb.buf 9 Tryz.underlying9
      go_wp2_with fail
      go_ret2
      exact ⟨_, rfl, he⟩

theorem law_own : ownKnob Tryz.prog.godebug = none := by kernel_rfl
theorem law_laid : laidOutB Tryz.prog = true := by kernel_rfl

theorem all_of {l m : List UInt8} {rs : List Rc} {n : Int} (h1 : recs l = rs) (h2 : left l = m) (hn : (l.length : Int) - (m.length : Int) = n) (w : World) (hs : l.length ≤ 1000000000000) :
    Calls Tryz.prog 24 #[.string (bs l)] w fun en w' => ∃ v, en = .returned (.tuple #[v, .int .i64 n]) ∧ RecsAt w' v rs ∧ Below w.heap.size w w' := by
  subst h1; subst h2; subst hn
  exact (all_any l w hs).mono fun en w' ⟨v, he, hb, hl⟩ => ⟨v, he, SlAt.of_buf hb, hl⟩

end Go.Proofs.YtcopknopifbebaaGreatDoor

namespace Go.Proofs.YtcopknopifbebaaGreatDoor
open Go.RowKit Go.Bar Go.Bar.Wal Go.Bar.Leb Go.Bar.Frm Go.Conc
attribute [local go_sem] Oper.semAt_some

theorem rec_small (r : Rc) (h : r.2.length ≤ 1000) : (rec r).length ≤ 1015 := by
  rw [rec_len]
  have := u_len r.2.length (by omega)
  omega
theorem laid_small : ∀ (rs : List Rc), (∀ r ∈ rs, r.2.length ≤ 1000) → (laid rs).length ≤ 1015 * rs.length
  | [], _ => by simp [laid]
  | r :: rs, h => by
    rw [laid_cons, List.length_append, List.length_cons]
    have h1 := rec_small r (h r (List.mem_cons_self ..))
    have h2 := laid_small rs fun x hx => h x (List.mem_cons_of_mem _ hx)
    omega
set_option maxHeartbeats 1000000 in
set_option maxRecDepth 10000 in
theorem spell_any (v : Value) (rs : List Rc) (w : World) (h : RecsAt w v rs) (hn : rs.length ≤ 20) (hs : ∀ r ∈ rs, r.2.length ≤ 1000) : Calls Tryz.prog 44 #[v] w (RetBelow w (.string (bs (laid rs)))) := by
  obtain ⟨A, c, rfl, hlc, hcm⟩ := h.shape
  unfold maxLen at hcm
  go_enter Tryz.func44, Tryz.ntmps44
  go_wp2_with fail
  go_loopw [3, 8] (fun b i wr => ∃ k : Nat, k ≤ rs.length ∧ i = .int .i64 k ∧ NBuf w wr 5 1 b (laid (rs.take k)).length (bcs (laid (rs.take k)))) (fun _ i _ => rs.length - (intOf i).toNat)
  case atStart => 
    have e2 : laid (rs.take 0) = [] := by simp [laid]
    exact ⟨0, Nat.zero_le _, rfl, by rw [e2]; exact NBuf.nil (Below.refl _ _) _ _⟩
  case round =>
    obtain ⟨k, hk, rfl, hb⟩ := hrel
    by_cases hgo : k < rs.length
    · obtain ⟨⟨kd, d⟩, hki⟩ : ∃ r, rs[k]? = some r := ⟨_, List.getElem?_eq_getElem hgo⟩
      have hd := hs _ (List.mem_of_getElem? hki)
      simp only at hd
      have hl := laid_small (rs.take k) (fun r hr => hs r (List.mem_of_mem_take hr))
      rw [List.length_take] at hl
      obtain ⟨b, o, rfl, hlt, c0, c1⟩ := (h.below hb.below).at_ hki
      have H1 := Lib.hid (laid_next hki)
      have hb := Lib.hid hb
      have hci : (0 : Int) ≤ (k : Int) := by omega
      have hci2 : (k : Int) < rs.length := by omega
      clear hki
      go_upto_region 5 with fail
      go_wp2_with (go_at_call 47; refine (append_any _ (laid (rs.take k)) kd (bs d) _ (by rw [bs_size]; omega) (hb.out.alloc _).buf).mono ?_; rintro e w2 ⟨v2, rfl, hap⟩)
      have hb2 := (hb.out.alloc _).step hap.buf (App.ap hap) (App.grew hap)
      rw [bs_data, ← H1.out] at hb2
      go_roundw
      case rel => exact ⟨k + 1, by omega, by go_num, hb2⟩
      case measure => simp [intOf]; omega
    · rw [List.take_of_length_le (by omega)] at hb
      have hcv := BBuf.string (l := laid rs) bytes_ty hb.buf 9 Tryz.underlying9
      go_wp2_with fail
      go_ret
      exact ⟨rfl, hb.below⟩
theorem since_all {rs : List Rc} (h : ∀ r ∈ rs, r.1 ≠ 255) : since rs = rs := by
  have := since_append [] h
  simpa [since] using this
theorem since_drop {rs : List Rc} {i : Nat} {d : List UInt8} (hi : rs[i]? = some (255, d)) (h : ∀ r ∈ rs.drop (i + 1), r.1 ≠ 255) : since rs = rs.drop (i + 1) := by
  obtain ⟨hlt, e⟩ := List.getElem?_eq_some_iff.1 hi
  have h2 := since_reset (rs.take i) d h
  rw [← h2, ← e, ← List.drop_eq_getElem_cons hlt, List.take_append_drop]
theorem frcs_drop (rs : List Rc) (k : Nat) : (frcs rs).drop (k * 2) = frcs (rs.drop k) := by
  induction k generalizing rs with
  | zero => simp
  | succ k ih =>
    cases rs with
    | nil => simp [frcs]
    | cons r rs =>
      rw [List.drop_succ_cons, ← ih rs]
      show ([_, _] ++ frcs rs).drop ((k + 1) * 2) = _
      rw [show (k + 1) * 2 = k * 2 + 2 by omega]
      simp
theorem RecsAt.from_ {w : World} {A : Option Addr} {c : Nat} {rs : List Rc} (h : RecsAt w (.slice A rs.length c) rs) {k : Nat} (hk : k ≤ rs.length) : RecsAt w (.slice (dropA A c k 2) (rs.length - k) (c - k)) (rs.drop k) := by
  have := SlAt.part h k rs.length hk (Nat.le_refl _)
  rw [frcs_drop] at this
  have e : (frcs (rs.drop k)).length = (rs.length - k) * 2 := by rw [rcs_length, List.length_drop]
  rw [← e, List.take_length] at this
  unfold RecsAt
  rw [List.length_drop]
  exact this
set_option maxHeartbeats 1000000 in
set_option maxRecDepth 10000 in
theorem since_any (v : Value) (rs : List Rc) (w : World) (h : RecsAt w v rs) : Calls Tryz.prog 43 #[v] w fun e w' => ∃ v', e = .returned v' ∧ RecsAt w' v' (since rs) ∧ w = w' := by
  obtain ⟨A, c, rfl, hlc, hcm⟩ := h.shape
  unfold maxLen at hcm
  obtain ⟨ie, hie1, hie2, hie3⟩ := rec_ty.info
  go_enter Tryz.func43, Tryz.ntmps43
  go_wp2_with fail
  go_loopw [3] (fun i wr => ∃ k : Nat, k ≤ rs.length ∧ i = .int .i64 ((k : Int) - 1) ∧ Hid (∀ r ∈ rs.drop k, r.1 ≠ 255) ∧ wr = w) (fun i _ => (intOf i + 1).toNat)
  case atStart => exact ⟨rs.length, Nat.le_refl _, rfl, (fun r hr => by rw [List.drop_length] at hr; cases hr), rfl⟩
  case round =>
    obtain ⟨k, hk, rfl, hne, rfl⟩ := hrel
    rcases Nat.eq_zero_or_pos k with h0 | h0
    · subst h0
      have hs : Hid (since rs = rs) := by have := hne.out; rw [List.drop_zero] at this; exact since_all this
      have h := Lib.hid h
      go_wp2_with fail
      go_ret
      exact ⟨_, rfl, by rw [hs.out]; exact h.out, rfl⟩
    · obtain ⟨q, rfl⟩ : ∃ q, k = q + 1 := ⟨k - 1, by omega⟩
      have e1 : (((q + 1 : Nat) : Int) - 1) = (q : Int) := by omega
      rw [e1]
      obtain ⟨⟨kd, d⟩, hki⟩ : ∃ r, rs[q]? = some r := ⟨_, List.getElem?_eq_getElem (by omega)⟩
      obtain ⟨b, o, rfl, hlt, c0, c1⟩ := h.at_ hki
      have hci : (0 : Int) ≤ (q : Int) := by omega
      have hci2 : (q : Int) < rs.length := by omega
      by_cases hkd : kd = 255
      · subst hkd
        have hs := Lib.hid (since_drop hki hne.out)
        have hd := Lib.hid (RecsAt.from_ h hk)
        have hsl := fun w => run_slice_f (a := some ⟨b, o, none⟩) (n := rs.length) (c := c) Tryz.underlying23 hie1 hie3.1 (q + 1) hk hlc w
        clear hki hsl
        by_cases hcq : c = q + 1
        · have hd2 : RecsAt wr (.slice (some ⟨b, o, none⟩) (rs.length - (q + 1)) 0) (rs.drop (q + 1)) := by
            have := hd.out
            unfold dropA at this
            rw [if_pos hcq, show c - (q + 1) = 0 by omega] at this
            exact this
          have hd2 := Lib.hid hd2
          go_wp2_with fail
          go_ret
          exact ⟨_, rfl, by rw [hs.out]; exact hd2.out, rfl⟩
        · have hd2 : RecsAt wr (.slice (some ⟨b, o + (q + 1) * 2, none⟩) (rs.length - (q + 1)) (c - (q + 1))) (rs.drop (q + 1)) := by
            have := hd.out
            unfold dropA at this
            rw [if_neg hcq] at this
            exact this
          have hd2 := Lib.hid hd2
          go_wp2_with fail
          go_ret
          exact ⟨_, rfl, by rw [hs.out]; exact hd2.out, rfl⟩
      · have hne2 : Hid (∀ r ∈ rs.drop q, r.1 ≠ 255) := by
          have := hne.out
          obtain ⟨hlt, e⟩ := List.getElem?_eq_some_iff.1 hki
          rw [List.drop_eq_getElem_cons hlt, e]
          intro r hr
          rcases List.mem_cons.1 hr with rfl | hr
          · exact hkd
          · exact this r hr
        have hkb : (kd.toNat : Int) ≠ 255 := by
          intro e
          apply hkd
          have : kd.toNat = 255 := by omega
          exact UInt8.toNat_inj.1 this
        clear hki
        go_wp2_with fail
        go_roundw
        case rel => exact ⟨q, by omega, by go_num, hne2, trivial⟩
        case measure => simp [intOf] <;> omega
end Go.Proofs.YtcopknopifbebaaGreatDoor
