/-
  Layer 4 (disk): List.
-/
import Derived.Test.YtcopknopifbebaaGreatDoorZShelf
import Derived.Sort.OwnSortedInts
import Derived.Test.YtcopknopifbebaaGreatDoorZFrmN
import Derived.Test.YtcopknopifbebaaGreatDoorZLib16
import Derived.Test.YtcopknopifbebaaGreatDoorZWalV
import Derived.Test.YtcopknopifbebaaGreatDoorZLib24
import Derived.Test.YtcopknopifbebaaGreatDoorZLib26

namespace Go.Proofs.YtcopknopifbebaaGreatDoor
open Go.RowKit Go.Bar Go.Bar.Wal Go.Conc
attribute [local go_sem] Oper.semAt_some

theorem str_tyw : ElemTy Tryz.prog 22 9 (.string ByteArray.empty) 1 16 :=
  ⟨Tryz.underlying22, info_parts (show (Tryz.prog.info? 9).map (fun i => (i.zero, i.size, i.bytes)) = some (some (.string ByteArray.empty), 1, 16) by kernel_rfl), rfl⟩
theorem scs_at {l : List (List UInt8)} {i : Nat} {s : List UInt8} (h : l[i]? = some s) : (scs l)[i]? = some (.string (bs s)) := by unfold scs; rw [List.getElem?_map, h]; rfl
theorem scs_snoc (l : List (List UInt8)) (s : List UInt8) : scs (l ++ [s]) = scs l ++ [.string (bs s)] := by unfold scs; rw [List.map_append]; rfl
def fl (p : List UInt8) (l : List Nm) : List Nm := l.filter fun n => p.isPrefixOf n
theorem fl_next {p : List UInt8} {l : List Nm} {j : Nat} {s : Nm} (h : l[j]? = some s) : fl p (l.take (j + 1)) = fl p (l.take j) ++ (if p.isPrefixOf s then [s] else []) := by
  unfold fl
  rw [List.take_add_one, h, Option.toList_some, List.filter_append, List.filter_cons, List.filter_nil]
theorem fl_len (p : List UInt8) (l : List Nm) : (fl p l).length ≤ l.length := List.length_filter_le _ _
set_option maxHeartbeats 4000000 in
set_option maxRecDepth 10000 in
theorem dList_any (w : World) (h : Hd) (d : Ds) (c : Nat) (k : DkAt w h d) (ha : Acc c d) (hc : c ≤ 100000000) (p : List UInt8) (hp : p.length ≤ maxLen) :
    Calls Tryz.prog 22 #[.pointer (some ⟨h.D, 0, none⟩), .string (bs p)] w fun e w' => ∃ v, e = .returned v ∧ Buf w' 9 1 v (d.list p).length (scs (d.list p)) ∧ Below w.heap.size w w' := by
  have hx1 := (d_cells k).2
  have hkeys := Lib.hid (keys_any h.M w)
  have hnum := ha.num
  have hsrt := Lib.hid (sorted_any h.M d.fs w (by obtain ⟨⟨a, b, k1, _⟩, _, _⟩ := k; exact k1.mp) ha.srt (by omega))
  obtain ⟨L, hL⟩ : ∃ L, L = d.fs.map (·.1) := ⟨_, rfl⟩
  have hLn : L.length = d.fs.length := by rw [hL, List.length_map]
  have hdl : d.list p = fl p L := by rw [hL]; rfl
  have hnm : ∀ n ∈ L, n.length ≤ 40 := fun n hn => by
    rw [hL] at hn
    obtain ⟨q, hq, rfl⟩ := List.mem_map.1 hn
    exact ha.nm q hq
  rw [hdl]
  rw [← hL, ← hLn] at hsrt
  clear hL hdl
  replace hLn : L.length ≤ 100000000 := by omega
  go_enter Tryz.func22, Tryz.ntmps22
  go_wp2_with (first
    | (go_at_call 49; refine hkeys.out.mono ?_; rintro e w1 ⟨rfl, rfl⟩)
    | (go_at_call 48; refine hsrt.out.mono ?_; rintro e w1 ⟨v, rfl, hsl, hb1⟩; obtain ⟨A, cc, rfl, hlc, hcm⟩ := hsl.shape; unfold maxLen at hcm))
  have hB : Below w.heap.size w w1 := ((Below.refl _ w).alloc (Nat.le_refl _) (.cells #[.map (some h.M)] 41)).trans hb1
  have hB := Lib.hid hB
  clear hb1 hx1 hsrt hkeys k ha hnum
  go_loopw [5, 7, 15] (fun o _ i wr => ∃ j : Nat, i = .int .i64 (j : Nat) ∧ j ≤ L.length ∧ Hid (NBuf w1 wr 9 1 o (fl p (L.take j)).length (scs (fl p (L.take j))))) (fun _ _ i _ => L.length - (intOf i).toNat)
  case atStart => exact ⟨0, rfl, Nat.zero_le _, NBuf.nil (Below.refl _ _) _ _⟩
  case round =>
    obtain ⟨j, rfl, hj, hb⟩ := hrel
    by_cases hjl : j < L.length
    · obtain ⟨s, hs⟩ : ∃ s, L[j]? = some s := ⟨_, List.getElem?_eq_getElem hjl⟩
      have hsl2 := hsl.below hb.below
      obtain ⟨bb, oo, rfl, hlt, hcells⟩ := hsl2.cells (by omega)
      have hcell := hcells j _ (scs_at hs)
      have hsn := hnm s (List.mem_of_getElem? hs)
      have hpx := Lib.hid (hasPrefix_any s p (by unfold maxLen; omega) hp)
      have hnx := Lib.hid (fl_next (p := p) hs)
      have hfl : (fl p (L.take j)).length ≤ j := Nat.le_trans (fl_len _ _) (by rw [List.length_take]; omega)
      have hci : (0 : Int) ≤ (j : Int) := by omega
      have hci2 : (j : Int) < L.length := by omega
      have hb := Lib.hid hb
      clear hs hcells hsl2
      cases hpp : p.isPrefixOf s with
      | false =>
        rw [hpp] at hpx
        have e : Hid (fl p (L.take (j + 1)) = fl p (L.take j)) := by have := hnx.out; rw [hpp, if_neg (by decide), List.append_nil] at this; exact this
        clear hnx hpp
        go_wp2_with (go_at_call 50; refine (hpx.out _).mono ?_; rintro e w' ⟨rfl, rfl⟩)
        go_roundw
        case rel => exact ⟨j + 1, by go_num, by omega, by rw [e.out]; exact hb.out⟩
        case measure => simp [intOf]; omega
      | true =>
        rw [hpp] at hpx
        have e : Hid (fl p (L.take (j + 1)) = fl p (L.take j) ++ [s]) := by have := hnx.out; rw [hpp] at this; exact this
        clear hnx hpp
        go_wp2_with (first
          | (go_at_call 50; refine (hpx.out _).mono ?_; rintro e w' ⟨rfl, rfl⟩)
          | (at_builtin; refine wpList_append_nlit rfl (.tmp 22) (.tmp 24) 22 rfl str_tyw rfl hb.out rfl (by simp) rfl (by simp [Value.oneCell']) (by simp only [maxLen]; omega) (by omega) ?_; intro v2 w2 hn2 ha2))
        go_roundw
        case rel => exact ⟨j + 1, by go_num, by omega, by rw [e.out, scs_snoc, List.length_append]; exact hn2⟩
        case measure => simp [intOf]; omega
    · have he : j = L.length := by omega
      subst he
      rw [List.take_length] at hb
      clear hjl
      go_wp2_with fail
      go_ret
      exact ⟨_, rfl, NBuf.buf hb, hB.out.trans (hb.below.mono hB.out.size)⟩
end Go.Proofs.YtcopknopifbebaaGreatDoor

namespace Go.Bar
open Go.RowKit Go.Sort Go.Proofs
theorem buf_sorted {w : World} {e : TypeId} {b o n c : Nat} {zs ts : List Int} (h : Buf w e 1 (.slice (some ⟨b, o, none⟩) n c) n (zs.map (Value.int .i64))) (hn : 0 < n) (hl : ts.length = zs.length) (q : Nat) (os : Array Obj) :
    Holds (Value.int .i64) w b o zs.toArray ∧ b < w.heap.size ∧ zs.length = n ∧ Buf (grow (putRow (Value.int .i64) (Sort.ahead w q) b o ts.toArray) os) e 1 (.slice (some ⟨b, o, none⟩) n c) n (ts.map (Value.int .i64)) := by
  have hz : zs.length = n := by have := h.1; rwa [List.length_map, Nat.mul_one] at this
  obtain ⟨b', o', c', he, hlt, hnc, hcells, hfr⟩ := h.at_ hn
  injection he with h1 _ h2
  injection h1 with h1
  injection h1 with h3 h4 _
  subst h2; subst h3; subst h4
  have hH : Holds (Value.int .i64) w b o zs.toArray := fun j hj => by
    have hj' : j < zs.length := by simpa using hj
    refine ⟨?_, hfr j (by omega)⟩
    rw [hcells j (by omega), List.getElem?_map, List.getElem?_eq_getElem hj']
    simp [hj']
  refine ⟨hH, hlt, hz, ?_⟩
  obtain ⟨hlen, A, c', hv, hnc', hcm, hb⟩ := h
  injection hv with h1 _ h2
  subst h1; subst h2
  obtain ⟨b', o', cur, fr, hA, hblk, hs, hf, hx⟩ := hb (by omega)
  injection hA with hA
  injection hA with h3 h4 _
  subst h3; subst h4
  refine ⟨by rw [List.length_map, hl, hz, Nat.mul_one], _, c, rfl, hnc', hcm, fun _ => ⟨b, o, putCells (Value.int .i64) o ts.toArray cur, fr, rfl, ?_, by simpa [putCells] using hs, hf, fun i hi => ?_⟩⟩
  · rw [heap_grow_old _ _ (by simpa using hlt)]
    simp [putRow, mapBlock, Sort.ahead, Array.getElem?_modify, hblk, onCells]
  · have hi2 : i < ts.length := by omega
    have := hx i hi
    rw [List.getElem?_map, List.getElem?_eq_getElem (by omega)] at this
    simp only [putCells, Array.getElem?_mapIdx, this]
    simp [hi2]
theorem sorted_below {w : World} {B b o q : Nat} {ts : List Int} {os : Array Obj} (hb : B ≤ b) (hw : B ≤ w.heap.size) : Below B w (grow (putRow (Value.int .i64) (Sort.ahead w q) b o ts.toArray) os) := by
  refine ⟨rfl, rfl, rfl, by simp, fun k hk => ?_⟩
  rw [heap_grow_old _ _ (by simp; omega)]
  have : b ≠ k := by omega
  simp [putRow, mapBlock, Sort.ahead, Array.getElem?_modify, this]
end Go.Bar
namespace Go.Bar.Wal
open Go.RowKit Go.Bar
def ns (l : List Nm) : List Nat := (l.map numN).filter fun n => decide (0 < n)
theorem ns_next {l : List Nm} {j : Nat} {s : Nm} (h : l[j]? = some s) : ns (l.take (j + 1)) = ns (l.take j) ++ (if 0 < numN s then [numN s] else []) := by
  unfold ns
  rw [List.take_add_one, h, Option.toList_some, List.map_append, List.filter_append, List.map_cons, List.map_nil, List.filter_cons, List.filter_nil]
  simp only [decide_eq_true_eq]
theorem ns_len (l : List Nm) : (ns l).length ≤ l.length := by
  unfold ns
  exact Nat.le_trans (List.length_filter_le _ _) (by rw [List.length_map]; exact Nat.le_refl _)
def ncs (l : List Nat) : List Value := l.map fun n : Nat => .int .i64 (n : Int)
theorem ncs_snoc (l : List Nat) (s : Nat) : ncs (l ++ [s]) = ncs l ++ [.int .i64 (s : Int)] := by unfold ncs; rw [List.map_append]; rfl
theorem ncs_eq (l : List Nat) : ncs l = (l.map fun n : Nat => (n : Int)).map (Value.int .i64) := by unfold ncs; rw [List.map_map]; rfl
theorem ncs_at {l : List Nat} {i : Nat} {s : Nat} (h : l[i]? = some s) : (ncs l)[i]? = some (.int .i64 (s : Int)) := by unfold ncs; rw [List.getElem?_map, h]; rfl
theorem sort_cast (l : List Nat) : (l.map fun n : Nat => (n : Int)).mergeSort (fun x y => decide (x ≤ y)) = (l.mergeSort fun x y => decide (x ≤ y)).map fun n : Nat => (n : Int) := by
  rw [List.map_mergeSort (s := fun x y => decide (x ≤ y)) (fun a _ b _ => by simp)]
end Go.Bar.Wal
namespace Go.Proofs.YtcopknopifbebaaGreatDoor
open Go.RowKit Go.Bar Go.Bar.Wal Go.Conc
attribute [local go_sem] Oper.semAt_some

theorem int_tyw : ElemTy Tryz.prog 38 3 (.int .i64 0) 1 8 :=
  ⟨Tryz.underlying38, info_parts (show (Tryz.prog.info? 3).map (fun i => (i.zero, i.size, i.bytes)) = some (some (.int .i64 0), 1, 8) by kernel_rfl), rfl⟩
theorem sortI_any {w0 w : World} {v : Value} {l : List Nat} (hb : NBuf w0 w 3 1 v l.length (ncs l)) (hl : l.length ≤ 1000000000) :
    Calls Tryz.prog 66 #[v] w fun e w' => e = .returned (.tuple #[]) ∧ NBuf w0 w' 3 1 v l.length (ncs (l.mergeSort fun x y => decide (x ≤ y))) := by
  obtain ⟨A, c, rfl, hlc, hcm⟩ := hb.slice.shape
  rcases Nat.eq_zero_or_pos l.length with h0 | h0
  · have hl0 : l = [] := List.length_eq_zero_iff.1 h0
    subst hl0
    refine (Tryz.slices_Sort_int_none A c w).mono ?_
    rintro e w' ⟨rfl, rfl⟩
    refine ⟨rfl, ?_⟩
    rw [show ([] : List Nat).mergeSort (fun x y => decide (x ≤ y)) = [] by simp]
    exact hb
  · obtain ⟨b, o, c', he, hlt, _⟩ := hb.buf.at_ h0
    injection he with h1 _ h2
    subst h1; subst h2
    have hbb := hb.buf
    rw [ncs_eq] at hbb
    have hs := fun q os => buf_sorted (ts := ((l.mergeSort fun x y => decide (x ≤ y)).map fun n : Nat => (n : Int))) hbb h0 (by rw [List.length_map, List.length_map, List.length_mergeSort]) q os
    have hc := Tryz.slices_Sort_int b o c (l.map fun n : Nat => (n : Int)) w (hs 0 #[]).1 hlt (by rw [List.length_map]; omega)
    rw [List.length_map] at hc
    refine hc.mono ?_
    rintro e w' ⟨rfl, q, os, rfl⟩
    rw [sort_cast]
    refine ⟨rfl, ?_, hb.below.trans (sorted_below (hb.new b rfl) hb.below.size), hb.new⟩
    rw [ncs_eq]
    exact (hs q os).2.2.2
set_option maxHeartbeats 4000000 in
set_option maxRecDepth 10000 in
theorem segments_any (w : World) (h : Hd) (d : Ds) (c : Nat) (k : DkAt w h d) (hE : EnvAt w) (ha : Acc c d) (hc : c ≤ 100000000) :
    Calls Tryz.prog 40 #[.pointer (some ⟨h.D, 0, none⟩)] w fun e w' => ∃ v, e = .returned v ∧ NBuf w w' 3 1 v (segsOf d).length (ncs (segsOf d)) := by
  have hlist := Lib.hid (dList_any w h d c k ha hc pre (by decide))
  have hnum := ha.num
  obtain ⟨L, hL⟩ : ∃ L, L = d.list pre := ⟨_, rfl⟩
  have hLn : L.length ≤ 100000000 := by
    rw [hL]
    unfold Ds.list
    exact Nat.le_trans (List.length_filter_le _ _) (by rw [List.length_map]; omega)
  have hnm : ∀ n ∈ L, n.length ≤ 40 := fun n hn => by
    rw [hL] at hn
    obtain ⟨q, hq, rfl⟩ := List.mem_map.1 (List.mem_filter.1 hn).1
    exact ha.nm q hq
  have hsg : segsOf d = (ns L).mergeSort (fun a b => decide (a ≤ b)) := by rw [hL]; rfl
  have hsl : ((ns L).mergeSort (fun a b => decide (a ≤ b))).length = (ns L).length := List.length_mergeSort _
  rw [hsg, hsl]
  rw [← hL] at hlist
  clear hsg hL hsl k ha
  replace hlist : Hid (Calls Tryz.prog 22 #[.pointer (some ⟨h.D, 0, none⟩), .string { data := #[119, 97, 108, 45] }] w fun e w' => ∃ v, e = .returned v ∧ Buf w' 9 1 v L.length (scs L) ∧ Below w.heap.size w w') := hlist
  go_enter Tryz.func40, Tryz.ntmps40
  go_wp2_with (go_at_call 22; refine hlist.out.mono ?_; rintro e w1 ⟨v, rfl, hbuf, hb1⟩; obtain ⟨A, cc, rfl, hlc, hcm⟩ := (SlAt.of_buf hbuf).shape; unfold maxLen at hcm)
  have HB := Lib.hid hb1
  clear hb1 hlist
  go_loopw [3, 10] (fun o i wr => ∃ j : Nat, i = .int .i64 (j : Nat) ∧ j ≤ L.length ∧ Hid (NBuf w1 wr 3 1 o (ns (L.take j)).length (ncs (ns (L.take j))))) (fun _ i _ => L.length - (intOf i).toNat)
  case atStart => exact ⟨0, rfl, Nat.zero_le _, NBuf.nil (Below.refl _ _) _ _⟩
  case round =>
    obtain ⟨j, rfl, hj, hb⟩ := hrel
    by_cases hjl : j < L.length
    · obtain ⟨s, hs⟩ : ∃ s, L[j]? = some s := ⟨_, List.getElem?_eq_getElem hjl⟩
      have hsl2 := (SlAt.of_buf hbuf).below hb.below
      obtain ⟨bb, oo, rfl, hlt, hcells⟩ := hsl2.cells (by omega)
      have hcell := hcells j _ (scs_at hs)
      have hsn := hnm s (List.mem_of_getElem? hs)
      have hnb := Lib.hid (number_any wr ((hE.below HB.out).below hb.below) s (by omega))
      have hnx := Lib.hid (ns_next hs)
      have hfl : (ns (L.take j)).length ≤ j := Nat.le_trans (ns_len _) (by rw [List.length_take]; omega)
      have hci : (0 : Int) ≤ (j : Int) := by omega
      have hci2 : (j : Int) < L.length := by omega
      have hb := Lib.hid hb
      obtain ⟨q, hq⟩ : ∃ q, q = numN s := ⟨_, rfl⟩
      rw [← hq] at hnb hnx
      clear hs hcells hsl2 hq
      by_cases h0 : 0 < q
      · have e : Hid (ns (L.take (j + 1)) = ns (L.take j) ++ [q]) := by have := hnx.out; rw [if_pos h0] at this; exact this
        clear hnx
        have h0i : (0 : Int) < (q : Int) := by omega
        go_wp2_with (first
          | (go_at_call 65; refine hnb.out.mono ?_; rintro e w2 ⟨rfl, hb2⟩; have hn2 := Lib.hid (hb.out.then_below hb2))
          | (at_builtin; refine wpList_append_nlit rfl (.tmp 18) (.tmp 20) 38 rfl int_tyw rfl hn2.out rfl (by simp) rfl (by simp [Value.oneCell']) (by simp only [maxLen]; omega) (by omega) ?_; intro v2 w3 hn3 ha3))
        go_roundw
        case rel => exact ⟨j + 1, by go_num, by omega, by rw [e.out, ncs_snoc, List.length_append]; exact hn3⟩
        case measure => simp [intOf]; omega
      · have e : Hid (ns (L.take (j + 1)) = ns (L.take j)) := by have := hnx.out; rw [if_neg h0, List.append_nil] at this; exact this
        have hq0 : q = 0 := by omega
        subst hq0
        clear hnx h0
        go_wp2_with (go_at_call 65; refine hnb.out.mono ?_; rintro e w2 ⟨rfl, hb2⟩; have hn2 := Lib.hid (hb.out.then_below hb2))
        go_roundw
        case rel => exact ⟨j + 1, by go_num, by omega, by rw [e.out]; exact hn2.out⟩
        case measure => simp [intOf]; omega
    · have he : j = L.length := by omega
      subst he
      rw [List.take_length] at hb
      clear hjl
      have hsrt := Lib.hid (sortI_any hb.out (Nat.le_trans (ns_len _) (by omega)))
      go_wp2_with (go_at_call 66; refine hsrt.out.mono ?_; rintro e w2 ⟨rfl, hn2⟩)
      go_ret
      exact ⟨_, rfl, hn2.after HB.out⟩
end Go.Proofs.YtcopknopifbebaaGreatDoor

namespace Go.Proofs.YtcopknopifbebaaGreatDoor
open Go.RowKit Go.Bar Go.Bar.Wal Go.Bar.Leb Go.Bar.Frm Go.Conc
attribute [local go_sem] Oper.semAt_some

theorem rec_small (r : Rc) (h : r.2.length ≤ 1000) : (rec r).length ≤ 1015 := by
  rw [rec_len]
  have := u_len r.2.length (by omega)
  omega
theorem laid_small : ∀ (rs : List Rc), (∀ r ∈ rs, r.2.length ≤ 1000) → (laid rs).length ≤ 1015 * rs.length
  | [], _ => by simp [laid]
  | r :: rs, h => by
    rw [laid_cons, List.length_append, List.length_cons]
    have h1 := rec_small r (h r (List.mem_cons_self ..))
    have h2 := laid_small rs fun x hx => h x (List.mem_cons_of_mem _ hx)
    omega
set_option maxHeartbeats 1000000 in
set_option maxRecDepth 10000 in
theorem spell_any (v : Value) (rs : List Rc) (w : World) (h : RecsAt w v rs) (hn : rs.length ≤ 20) (hs : ∀ r ∈ rs, r.2.length ≤ 1000) : Calls Tryz.prog 44 #[v] w (RetBelow w (.string (bs (laid rs)))) := by
  obtain ⟨A, c, rfl, hlc, hcm⟩ := h.shape
  unfold maxLen at hcm
  go_enter Tryz.func44, Tryz.ntmps44
  go_wp2_with fail
  go_loopw [3, 8] (fun b i wr => ∃ k : Nat, k ≤ rs.length ∧ i = .int .i64 k ∧ NBuf w wr 5 1 b (laid (rs.take k)).length (bcs (laid (rs.take k)))) (fun _ i _ => rs.length - (intOf i).toNat)
  case atStart => 
    have e2 : laid (rs.take 0) = [] := by simp [laid]
    exact ⟨0, Nat.zero_le _, rfl, by rw [e2]; exact NBuf.nil (Below.refl _ _) _ _⟩
  case round =>
    obtain ⟨k, hk, rfl, hb⟩ := hrel
    by_cases hgo : k < rs.length
    · obtain ⟨⟨kd, d⟩, hki⟩ : ∃ r, rs[k]? = some r := ⟨_, List.getElem?_eq_getElem hgo⟩
      have hd := hs _ (List.mem_of_getElem? hki)
      simp only at hd
      have hl := laid_small (rs.take k) (fun r hr => hs r (List.mem_of_mem_take hr))
      rw [List.length_take] at hl
      obtain ⟨b, o, rfl, hlt, c0, c1⟩ := (h.below hb.below).at_ hki
      have H1 := Lib.hid (laid_next hki)
      have hb := Lib.hid hb
      have hci : (0 : Int) ≤ (k : Int) := by omega
      have hci2 : (k : Int) < rs.length := by omega
      clear hki
      go_upto_region 5 with fail
      go_wp2_with (go_at_call 47; refine (append_any _ (laid (rs.take k)) kd (bs d) _ (by rw [bs_size]; omega) (hb.out.alloc _).buf).mono ?_; rintro e w2 ⟨v2, rfl, hap⟩)
      have hb2 := (hb.out.alloc _).step hap.buf (App.ap hap) (App.grew hap)
      rw [bs_data, ← H1.out] at hb2
      go_roundw
      case rel => exact ⟨k + 1, by omega, by go_num, hb2⟩
      case measure => simp [intOf]; omega
    · rw [List.take_of_length_le (by omega)] at hb
      have hcv := BBuf.string (l := laid rs) bytes_ty hb.buf 9 Tryz.underlying9
      go_wp2_with fail
      go_ret
      exact ⟨rfl, hb.below⟩
theorem since_all {rs : List Rc} (h : ∀ r ∈ rs, r.1 ≠ 255) : since rs = rs := by
  have := since_append [] h
  simpa [since] using this
theorem since_drop {rs : List Rc} {i : Nat} {d : List UInt8} (hi : rs[i]? = some (255, d)) (h : ∀ r ∈ rs.drop (i + 1), r.1 ≠ 255) : since rs = rs.drop (i + 1) := by
  obtain ⟨hlt, e⟩ := List.getElem?_eq_some_iff.1 hi
  have h2 := since_reset (rs.take i) d h
  rw [← h2, ← e, ← List.drop_eq_getElem_cons hlt, List.take_append_drop]
theorem frcs_drop (rs : List Rc) (k : Nat) : (frcs rs).drop (k * 2) = frcs (rs.drop k) := by
  induction k generalizing rs with
  | zero => simp
  | succ k ih =>
    cases rs with
    | nil => simp [frcs]
    | cons r rs =>
      rw [List.drop_succ_cons, ← ih rs]
      show ([_, _] ++ frcs rs).drop ((k + 1) * 2) = _
      rw [show (k + 1) * 2 = k * 2 + 2 by omega]
      simp
theorem RecsAt.from_ {w : World} {A : Option Addr} {c : Nat} {rs : List Rc} (h : RecsAt w (.slice A rs.length c) rs) {k : Nat} (hk : k ≤ rs.length) : RecsAt w (.slice (dropA A c k 2) (rs.length - k) (c - k)) (rs.drop k) := by
  have := SlAt.part h k rs.length hk (Nat.le_refl _)
  rw [frcs_drop] at this
  have e : (frcs (rs.drop k)).length = (rs.length - k) * 2 := by rw [rcs_length, List.length_drop]
  rw [← e, List.take_length] at this
  unfold RecsAt
  rw [List.length_drop]
  exact this
set_option maxHeartbeats 1000000 in
set_option maxRecDepth 10000 in
theorem since_any (v : Value) (rs : List Rc) (w : World) (h : RecsAt w v rs) : Calls Tryz.prog 43 #[v] w fun e w' => ∃ v', e = .returned v' ∧ RecsAt w' v' (since rs) ∧ w = w' := by
  obtain ⟨A, c, rfl, hlc, hcm⟩ := h.shape
  unfold maxLen at hcm
  obtain ⟨ie, hie1, hie2, hie3⟩ := rec_ty.info
  go_enter Tryz.func43, Tryz.ntmps43
  go_wp2_with fail
  go_loopw [3] (fun i wr => ∃ k : Nat, k ≤ rs.length ∧ i = .int .i64 ((k : Int) - 1) ∧ Hid (∀ r ∈ rs.drop k, r.1 ≠ 255) ∧ wr = w) (fun i _ => (intOf i + 1).toNat)
  case atStart => exact ⟨rs.length, Nat.le_refl _, rfl, (fun r hr => by rw [List.drop_length] at hr; cases hr), rfl⟩
  case round =>
    obtain ⟨k, hk, rfl, hne, rfl⟩ := hrel
    rcases Nat.eq_zero_or_pos k with h0 | h0
    · subst h0
      have hs : Hid (since rs = rs) := by have := hne.out; rw [List.drop_zero] at this; exact since_all this
      have h := Lib.hid h
      go_wp2_with fail
      go_ret
      exact ⟨_, rfl, by rw [hs.out]; exact h.out, rfl⟩
    · obtain ⟨q, rfl⟩ : ∃ q, k = q + 1 := ⟨k - 1, by omega⟩
      have e1 : (((q + 1 : Nat) : Int) - 1) = (q : Int) := by omega
      rw [e1]
      obtain ⟨⟨kd, d⟩, hki⟩ : ∃ r, rs[q]? = some r := ⟨_, List.getElem?_eq_getElem (by omega)⟩
      obtain ⟨b, o, rfl, hlt, c0, c1⟩ := h.at_ hki
      have hci : (0 : Int) ≤ (q : Int) := by omega
      have hci2 : (q : Int) < rs.length := by omega
      by_cases hkd : kd = 255
      · subst hkd
        have hs := Lib.hid (since_drop hki hne.out)
        have hd := Lib.hid (RecsAt.from_ h hk)
        have hsl := fun w => run_slice_f (a := some ⟨b, o, none⟩) (n := rs.length) (c := c) Tryz.underlying23 hie1 hie3.1 (q + 1) hk hlc w
        clear hki hsl
        by_cases hcq : c = q + 1
        · have hd2 : RecsAt wr (.slice (some ⟨b, o, none⟩) (rs.length - (q + 1)) 0) (rs.drop (q + 1)) := by
            have := hd.out
            unfold dropA at this
            rw [if_pos hcq, show c - (q + 1) = 0 by omega] at this
            exact this
          have hd2 := Lib.hid hd2
          go_wp2_with fail
          go_ret
          exact ⟨_, rfl, by rw [hs.out]; exact hd2.out, rfl⟩
        · have hd2 : RecsAt wr (.slice (some ⟨b, o + (q + 1) * 2, none⟩) (rs.length - (q + 1)) (c - (q + 1))) (rs.drop (q + 1)) := by
            have := hd.out
            unfold dropA at this
            rw [if_neg hcq] at this
            exact this
          have hd2 := Lib.hid hd2
          go_wp2_with fail
          go_ret
          exact ⟨_, rfl, by rw [hs.out]; exact hd2.out, rfl⟩
      · have hne2 : Hid (∀ r ∈ rs.drop q, r.1 ≠ 255) := by
          have := hne.out
          obtain ⟨hlt, e⟩ := List.getElem?_eq_some_iff.1 hki
          rw [List.drop_eq_getElem_cons hlt, e]
          intro r hr
          rcases List.mem_cons.1 hr with rfl | hr
          · exact hkd
          · exact this r hr
        have hkb : (kd.toNat : Int) ≠ 255 := by
          intro e
          apply hkd
          have : kd.toNat = 255 := by omega
          exact UInt8.toNat_inj.1 this
        clear hki
        go_wp2_with fail
        go_roundw
        case rel => exact ⟨q, by omega, by go_num, hne2, trivial⟩
        case measure => simp [intOf] <;> omega
end Go.Proofs.YtcopknopifbebaaGreatDoor

namespace Go.Bar.Wal
open Go.RowKit Go.Bar

def nLoose : Fs → Nat
  | [] => 0
  | (_, f) :: r => (if f.s.length - f.sure = 0 then 0 else 1) + nLoose r
theorem nLoose_le : ∀ (fs : Fs), nLoose fs ≤ fs.length
  | [] => Nat.le_refl _
  | (_, f) :: r => by
    have := nLoose_le r
    rw [nLoose, List.length_cons]
    split <;> omega
theorem nLoose_append : ∀ (a b : Fs), nLoose (a ++ b) = nLoose a + nLoose b
  | [], b => (Nat.zero_add _).symm
  | (_, f) :: r, b => by
    rw [List.cons_append, nLoose, nLoose_append r b, nLoose, Nat.add_assoc]
theorem drop_tail {α : Type} (l : List α) (n : Nat) : l.tail.drop n = l.drop (n + 1) := by
  cases l with
  | nil => simp
  | cons a l => rfl
theorem crashF_append : ∀ (a b : Fs) (cs : List Int), crashF (a ++ b) cs = crashF a cs ++ crashF b (cs.drop (nLoose a))
  | [], b, cs => rfl
  | (n, f) :: r, b, cs => by
    rw [List.cons_append, crashF, crashF, nLoose]
    by_cases h : f.s.length - f.sure = 0
    · rw [if_pos h, if_pos h, if_pos h, crashF_append r b cs, Nat.zero_add]; rfl
    · rw [if_neg h, if_neg h, if_neg h, crashF_append r b cs.tail, drop_tail, Nat.add_comm 1]; rfl
theorem lost_append : ∀ (a b : Fs) (cs : List Int), lost (a ++ b) cs = lost a cs + lost b (cs.drop (nLoose a))
  | [], b, cs => (Nat.zero_add _).symm
  | (n, f) :: r, b, cs => by
    rw [List.cons_append, lost, lost, nLoose]
    by_cases h : f.s.length - f.sure = 0
    · rw [if_pos h, if_pos h, if_pos h, lost_append r b cs, Nat.zero_add]
    · rw [if_neg h, if_neg h, if_neg h, lost_append r b cs.tail, drop_tail, Nat.add_comm 1, Nat.add_assoc]
theorem keep_le (l : Nat) (c : Option Int) : keepOf l c ≤ l := by
  unfold keepOf
  cases c with
  | none => exact Nat.zero_le _
  | some z =>
    simp only
    have h1 := Int.tmod_lt_of_pos (z.tmod (l + 1) + l + 1) (show (0 : Int) < l + 1 by omega)
    omega
theorem put_mid : ∀ (a : Fs) (n : Nm) (f g : Fi) (q : Fs), Srt (a ++ (n, f) :: q) → fput (a ++ (n, f) :: q) n g = a ++ (n, g) :: q
  | [], n, f, g, q, _ => by
    show (if n = n then _ else _) = _
    rw [if_pos rfl]; rfl
  | (m, e) :: a, n, f, g, q, h => by
    obtain ⟨h1, h2⟩ := List.pairwise_cons.1 h
    have hm : m < n := h1 (n, f) (by simp)
    rw [List.cons_append]
    unfold fput
    rw [if_neg (fun e => by rw [e] at hm; exact List.lt_irrefl _ hm), if_neg (fun e => List.lt_irrefl _ (List.lt_trans hm e)), put_mid a n f g q h2]
    rfl
theorem fnd_mid {a : Fs} {n : Nm} {f : Fi} {q : Fs} (h : Srt (a ++ (n, f) :: q)) : fnd (a ++ (n, f) :: q) n = some f := h.fnd (by simp)
def crJ (fs : Fs) (cs : List Int) (j : Nat) : Fs := crashF (fs.take j) cs ++ fs.drop j
theorem crJ_zero (fs : Fs) (cs : List Int) : crJ fs cs 0 = fs := rfl
theorem crJ_all (fs : Fs) (cs : List Int) : crJ fs cs fs.length = crashF fs cs := by unfold crJ; rw [List.take_length, List.drop_length, List.append_nil]
theorem crJ_names (fs : Fs) (cs : List Int) (j : Nat) : (crJ fs cs j).map (·.1) = fs.map (·.1) := by
  unfold crJ
  rw [List.map_append, crash_names, ← List.map_append, List.take_append_drop]
theorem crJ_srt {fs : Fs} (hs : Srt fs) (cs : List Int) (j : Nat) : Srt (crJ fs cs j) := by
  have := List.pairwise_map.2 hs
  rw [← crJ_names fs cs j] at this
  exact List.pairwise_map.1 this
theorem crJ_at {fs : Fs} (cs : List Int) {j : Nat} {n : Nm} {f : Fi} (h : fs[j]? = some (n, f)) : crJ fs cs j = crashF (fs.take j) cs ++ (n, f) :: fs.drop (j + 1) := by
  unfold crJ
  have hj := (List.getElem?_eq_some_iff.1 h)
  obtain ⟨hj, e⟩ := hj
  rw [List.drop_eq_getElem_cons hj, e]
theorem crJ_fnd {fs : Fs} (hs : Srt fs) (cs : List Int) {j : Nat} {n : Nm} {f : Fi} (h : fs[j]? = some (n, f)) : fnd (crJ fs cs j) n = some f := by
  have := crJ_srt hs cs j
  rw [crJ_at cs h] at this ⊢
  exact fnd_mid this
theorem take_snoc {fs : Fs} {j : Nat} {p : Nm × Fi} (h : fs[j]? = some p) : fs.take (j + 1) = fs.take j ++ [p] := by
  rw [List.take_add_one, h]; rfl
theorem crJ_skip {fs : Fs} (cs : List Int) {j : Nat} {n : Nm} {f : Fi} (h : fs[j]? = some (n, f)) (hl : f.s.length - f.sure = 0) : crJ fs cs (j + 1) = crJ fs cs j ∧ lost (fs.take (j + 1)) cs = lost (fs.take j) cs ∧ nLoose (fs.take (j + 1)) = nLoose (fs.take j) := by
  refine ⟨?_, ?_, ?_⟩
  · rw [crJ_at cs h]
    unfold crJ
    rw [take_snoc h, crashF_append, List.append_assoc]
    congr 1
    rw [crashF, if_pos hl]; rfl
  · rw [take_snoc h, lost_append]
    rw [lost, if_pos hl]; rfl
  · rw [take_snoc h, nLoose_append]
    rw [nLoose, if_pos hl]; rfl
theorem crJ_step {fs : Fs} (hs : Srt fs) (cs : List Int) {j : Nat} {n : Nm} {f : Fi} (h : fs[j]? = some (n, f)) (hl : ¬ f.s.length - f.sure = 0) (hk : f.sure ≤ f.s.length) :
    crJ fs cs (j + 1) = fput (crJ fs cs j) n ⟨f.s.take (f.sure + keepOf (f.s.length - f.sure) cs[nLoose (fs.take j)]?), f.sure + keepOf (f.s.length - f.sure) cs[nLoose (fs.take j)]?⟩ ∧
    lost (fs.take (j + 1)) cs = lost (fs.take j) cs + (f.s.length - f.sure - keepOf (f.s.length - f.sure) cs[nLoose (fs.take j)]?) ∧ nLoose (fs.take (j + 1)) = nLoose (fs.take j) + 1 := by
  have hh : (cs.drop (nLoose (fs.take j))).head? = cs[nLoose (fs.take j)]? := by rw [List.head?_drop]
  have hkl := keep_le (f.s.length - f.sure) cs[nLoose (fs.take j)]?
  refine ⟨?_, ?_, ?_⟩
  · have h1 := crJ_srt hs cs j
    rw [crJ_at cs h] at h1 ⊢
    rw [put_mid _ _ _ _ _ h1]
    unfold crJ
    rw [take_snoc h, crashF_append, List.append_assoc]
    congr 1
    rw [crashF, if_neg hl, hh, List.length_take, Nat.min_eq_left (by omega)]; rfl
  · rw [take_snoc h, lost_append]
    rw [lost, if_neg hl, hh]; rfl
  · rw [take_snoc h, nLoose_append]
    rw [nLoose, if_neg hl]; rfl
theorem lost_le (fs : Fs) (hs : ∀ p ∈ fs, p.2.sure ≤ p.2.s.length) (cs : List Int) : lost fs cs ≤ tot fs := by
  have := (crash_tot fs hs cs).1; omega
theorem lost_take_le (fs : Fs) (_hs : ∀ p ∈ fs, p.2.sure ≤ p.2.s.length) (cs : List Int) (j : Nat) : lost (fs.take j) cs ≤ lost fs cs := by
  conv => rhs; rw [← List.take_append_drop j fs]
  rw [lost_append]
  exact Nat.le_add_right _ _
end Go.Bar.Wal

namespace Go.Proofs.YtcopknopifbebaaGreatDoor
open Go.RowKit Go.Bar Go.Bar.Wal Go.Conc
attribute [local go_sem] Oper.semAt_some

def zcs (l : List Int) : List Value := l.map fun n => .int .i64 n
theorem zcs_at {l : List Int} {i : Nat} {s : Int} (h : l[i]? = some s) : (zcs l)[i]? = some (.int .i64 s) := by unfold zcs; rw [List.getElem?_map, h]; rfl
theorem tmod_bnd (z : Int) (l : Nat) : -((l : Int) + 1) < z.tmod (l + 1) ∧ z.tmod (l + 1) < (l : Int) + 1 :=
  ⟨Int.lt_tmod_of_pos z (by omega), Int.tmod_lt_of_pos z (by omega)⟩
theorem keep_some (l : Nat) (z : Int) : ((keepOf l (some z) : Nat) : Int) = (z.tmod (l + 1) + l + 1).tmod (l + 1) := by
  unfold keepOf
  simp only
  have h2 := (tmod_bnd z l).1
  have h3 : (0 : Int) ≤ (z.tmod (l + 1) + l + 1).tmod (l + 1) := Int.tmod_nonneg _ (by omega)
  omega
set_option maxHeartbeats 4000000 in
set_option maxRecDepth 10000 in
theorem crash_any (w : World) (h : Hd) (d : Ds) (B c : Nat) (k : DkAt w h d) (hB : h.Hi B) (ha : Acc c d) (hc : c ≤ 100000000) (hr : d.room ≤ 100000000000) (A : Option Addr) (cn : Nat) (cs : List Int) (hcn : cs.length ≤ 9223372036854775807) (hcs : ∀ w', Below B w w' → SlAt w' 1 (.slice A cs.length cn) cs.length (zcs cs)) :
    Calls Tryz.prog 19 #[.pointer (some ⟨h.D, 0, none⟩), .slice A cs.length cn] w (DkTo B w h (d.crash cs) (.tuple #[])) := by
  have x0 := (d_cells k).1
  have hcl := Lib.hid ((clear_any w h d B k hB).mono fun e w' hh => hh.wide dt0)
  have ha0 := ha.fuse (z := Fz.none_) (Nat.zero_le _)
  have hlist := Lib.hid (fun w' k' => dList_any w' h { d with fz := Fz.none_ } c k' ha0 hc [] (Nat.zero_le _))
  have hnum := ha.num
  have hhi : B ≤ w.heap.size := hiA k hB
  obtain ⟨L, hL⟩ : ∃ L, L = d.fs.map (·.1) := ⟨_, rfl⟩
  have hdl : ({ d with fz := Fz.none_ } : Ds).list [] = L := by
    rw [hL]
    unfold Ds.list
    exact List.filter_eq_self.2 fun n _ => by cases n <;> rfl
  rw [hdl] at hlist
  have hLn : L.length = d.fs.length := by rw [hL, List.length_map]
  replace hL := Lib.hid hL
  clear hdl
  go_enter Tryz.func19, Tryz.ntmps19
  go_wp2_with (first
    | (go_at_call 30; refine hcl.out.mono ?_; rintro e w1 ⟨rfl, k1, o1⟩)
    | (go_at_call 22; refine (hlist.out _ k1).mono ?_; rintro e w2 ⟨v, rfl, hbuf, hb2⟩; obtain ⟨A2, c2, rfl, hlc, hcm⟩ := (SlAt.of_buf hbuf).shape; unfold maxLen at hcm))
  have k2 := k1.below hb2
  have o2 : Off DTs B w w2 := o1.trans (Off.of_below hb2 (hiA k1 hB))
  clear hb2 k1 o1 hlist hcl x0 k
  have hsok := Lib.hid ha.sok
  have hsrt := Lib.hid ha.srt
  have huse1 : d.used ≤ (tot d.fs : Nat) := Int.le_of_eq ha.use
  have huse2 : ((tot d.fs : Nat) : Int) ≤ d.used := Int.le_of_eq ha.use.symm
  have hroom := ha.room
  have hname := Lib.hid ha.nm
  clear ha ha0
  have K2 := Lib.hid k2
  have O2 := Lib.hid o2
  clear k2 o2
  go_loopw [4, 18] (fun i x wr => ∃ j : Nat, x = .int .i64 (j : Nat) ∧ j ≤ d.fs.length ∧ i = .int .i64 (nLoose (d.fs.take j) : Nat) ∧ Hid (DkAt wr h { fs := crJ d.fs cs j, room := d.room, used := d.used - (lost (d.fs.take j) cs : Nat), fz := Fz.none_ }) ∧ Hid (Off DTs B w2 wr)) (fun _ x _ => d.fs.length - (intOf x).toNat)
  case atStart => exact ⟨0, rfl, Nat.zero_le _, rfl, by rw [crJ_zero]; show Hid (DkAt w2 h { fs := d.fs, room := d.room, used := d.used - ((0 : Nat) : Int), fz := Fz.none_ }); rw [Int.ofNat_zero, Int.sub_zero]; exact K2, Off.refl _ _ _⟩
  case round =>
    obtain ⟨j, rfl, hj, rfl, hk, ho⟩ := hrel
    by_cases hjl : j < d.fs.length
    · obtain ⟨⟨n, f⟩, hs⟩ : ∃ s, d.fs[j]? = some s := ⟨_, List.getElem?_eq_getElem hjl⟩
      have hsn := hname.out _ (List.mem_of_getElem? hs)
      have hsk := hsok.out _ (List.mem_of_getElem? hs)
      simp only at hsn hsk
      have hlt := mem_le_tot (List.mem_of_getElem? hs)
      simp only at hlt
      have hcell : ∃ b o, A2 = some ⟨b, o, none⟩ ∧ wr.cell? ⟨b, o + j, none⟩ = some (.string (bs n)) := by
        obtain ⟨bb, oo, e, hlt, hcells⟩ := (SlAt.of_buf (ho.out.kc.buf hbuf nd_str)).cells (by omega)
        refine ⟨bb, oo, e, hcells j _ (scs_at (by rw [hL.out, List.getElem?_map, hs]; rfl))⟩
      obtain ⟨bb, oo, rfl, hcell⟩ := hcell
      have x1 := (d_cells hk.out).2
      have hlk : (Instr.lookup 41 (.map (some h.M)) (.string (bs n)) false).run Tryz.prog wr = .ok (.agg #[.string (bs f.s), .int .i64 (f.sure : Nat)]) wr := by
        obtain ⟨⟨a, b, k1, _⟩, _, _⟩ := hk.out
        have := k1.mp.look fm_ty n (by unfold maxLen; omega)
        rw [crJ_fnd hsrt.out cs hs] at this
        exact this
      have hci : (0 : Int) ≤ (j : Int) := by omega
      have hci2 : (j : Int) < L.length := by omega
      have hl1 : f.s.length ≤ 100000000000 := by omega
      have hl2 : (f.sure : Int) ≤ f.s.length := by omega
      have HS := Lib.hid hs
      clear hs
      by_cases hloose : f.s.length - f.sure = 0
      · have he : f.s.length = f.sure := by omega
        have hst := Lib.hid (crJ_skip cs HS.out hloose)
        have heq : decide ((f.s.length : Int) - f.sure = 0) = true := decide_eq_true (by omega)
        clear hloose
        go_wp2_with fail
        go_roundw
        case rel => exact ⟨j + 1, by go_num, by omega, by rw [hst.out.2.2], by rw [hst.out.1, hst.out.2.1]; exact hk.out.below ((Below.refl _ _).alloc (Nat.le_refl _) _), ho.out.trans (Off.of_below ((Below.refl _ _).alloc (Nat.le_refl _) _) (hiA hk.out hB))⟩
        case measure => simp [intOf]; omega
      · have hst := Lib.hid (crJ_step hsrt.out cs HS.out hloose hsk)
        have hne1 : ¬ f.s.length = f.sure := by omega
        have hne2 : ¬ (f.s.length : Int) = f.sure := by omega
        have hne3 : ¬ (f.s.length : Int) - f.sure = 0 := by omega
        obtain ⟨q, hq⟩ : ∃ q, q = nLoose (d.fs.take j) := ⟨_, rfl⟩
        have hqn : q ≤ 100000000 := by
          rw [hq]
          have := nLoose_le (d.fs.take j)
          rw [List.length_take] at this
          omega
        rw [← hq] at hst ⊢
        obtain ⟨K, hK⟩ : ∃ K, K = keepOf (f.s.length - f.sure) cs[q]? := ⟨_, rfl⟩
        have hKl : K ≤ f.s.length - f.sure := by rw [hK]; exact keep_le _ _
        have hlst : lost (d.fs.take j) cs + (f.s.length - f.sure - K) ≤ tot d.fs := by
          have h1 := hst.out.2.1
          rw [← hK] at h1
          rw [← h1]
          exact Nat.le_trans (lost_take_le _ hsok.out cs (j + 1)) (lost_le _ hsok.out cs)
        have hkeep : (¬ (q : Int) < cs.length ∧ K = 0) ∨ (∃ z b o, A = some ⟨b, o, none⟩ ∧ q < cs.length ∧ (q : Int) < cs.length ∧ (∀ o', (wr.alloc o').cell? ⟨b, o + q, none⟩ = some (.int .i64 z)) ∧ -((f.s.length : Int) - f.sure) ≤ z.tmod ((f.s.length : Int) - f.sure + 1) ∧ z.tmod ((f.s.length : Int) - f.sure + 1) ≤ (f.s.length : Int) - f.sure ∧ (z.tmod ((f.s.length : Int) - f.sure + 1) + ((f.s.length : Int) - f.sure) + 1).tmod ((f.s.length : Int) - f.sure + 1) = (K : Int)) := by
          by_cases hql : q < cs.length
          · right
            obtain ⟨z, hz⟩ : ∃ z, cs[q]? = some z := ⟨_, List.getElem?_eq_getElem hql⟩
            have hbw : ∀ o', Below B w (wr.alloc o') := fun o' => (O2.out.trans ho.out).bel.trans ((Below.refl _ _).alloc (hiA hk.out hB) o')
            have hw0 := hcs _ (O2.out.trans ho.out).bel
            obtain ⟨b, o, e, hlt, hcells⟩ := hw0.cells (by omega)
            have e2 : (((f.s.length - f.sure : Nat) : Int)) = (f.s.length : Int) - f.sure := by omega
            have h1 := tmod_bnd z (f.s.length - f.sure)
            have h2 := keep_some (f.s.length - f.sure) z
            rw [e2] at h1 h2
            refine ⟨z, b, o, e, hql, by omega, fun o' => ?_, by omega, by omega, by rw [hK, hz, h2]⟩
            have := hcells q _ (zcs_at hz)
            exact ((Below.refl wr.heap.size wr).alloc (Nat.le_refl _) o').cell (p := ⟨b, o + q, none⟩) hlt |>.trans this
          · left
            refine ⟨by omega, ?_⟩
            rw [hK, List.getElem?_eq_none (by omega)]; rfl
        rw [← hK] at hst
        clear hK hq hloose
        rcases hkeep with ⟨hd, rfl⟩ | ⟨z, bA, oA, rfl, hd, hql, hzc, hz1, hz2, hz3⟩
        · skip
          go_upto_region 12 with fail
          have hba : Below wr.heap.size wr (wr.alloc (.cells #[.string (bs f.s), .int .i64 (f.sure : Nat)] 94)) := (Below.refl _ _).alloc (Nat.le_refl _) _
          have F3 : Blk (wr.alloc (.cells #[.string (bs f.s), .int .i64 (f.sure : Nat)] 94)) wr.heap.size 94 #[.string (bs f.s), .int .i64 (f.sure : Nat)] := Blk.new wr _ _
          have hBr := hiA hk.out hB
          obtain ⟨F, hF⟩ : ∃ F, F = wr.heap.size := ⟨_, rfl⟩
          obtain ⟨w3, hw3⟩ : ∃ w3, w3 = wr.alloc (.cells #[.string (bs f.s), .int .i64 (f.sure : Nat)] 94) := ⟨_, rfl⟩
          rw [← hw3] at hba F3 ⊢
          rw [← hF] at F3 hBr ⊢
          have k3 := hk.out.below hba
          have o3 := ho.out.trans (Off.of_below hba (by omega))
          clear hw3 hba hF
          obtain ⟨⟨a, b, kc, kx⟩, kq, kn⟩ := k3
          simp only at kc
          have c3 := kc.dk.cell (i := 3) rfl
          have f3 := kc.dk.free 3
          have kd := kc.setD (d.used - (lost (d.fs.take j) cs : Nat) - ((f.s.length : Int) - (f.sure : Int)))
          have od := o3.trans (offD kc hB 3 (.int .i64 (d.used - (lost (d.fs.take j) cs : Nat) - ((f.s.length : Int) - (f.sure : Int)))))
          have F4 := blk_set F3 kc.dk (by decide) 3 (.int .i64 (d.used - (lost (d.fs.take j) cs : Nat) - ((f.s.length : Int) - (f.sure : Int))))
          go_upto_region 13 with fail
          obtain ⟨w4, hw4⟩ : ∃ w4, w4 = w3.setCell ⟨h.D, 3, none⟩ (.int .i64 (d.used - (lost (d.fs.take j) cs : Nat) - ((f.s.length : Int) - (f.sure : Int)))) := ⟨_, rfl⟩
          rw [← hw4] at kd od F4 ⊢
          clear hw4 kc c3 f3 F3
          obtain ⟨T, hT⟩ : ∃ T, T = f.s.take (f.sure) := ⟨_, rfl⟩
          have hTl : T.length = f.sure := by rw [hT, List.length_take, Nat.min_eq_left (by omega)]
          have hsl : ∀ w, (Instr.slice 9 (.string (bs f.s)) none (some (.int .i64 ((f.sure : Nat)))) none).run Tryz.prog w = .ok (.string (bs T)) w := fun w => by
            have := slice_to (P := Tryz.prog) Tryz.underlying9 f.s (f.sure) (by omega) w
            rw [hT]
            simpa using this
          have hTu : T.length ≤ 9223372036854775807 := by omega
          replace hT := Lib.hid hT
          replace hTl := Lib.hid hTl
          obtain ⟨g0, g1⟩ := Blk.c2 F4
          have gf := F4.free 0
          have k5 := kd.other F4 ndk_file 0 (.string (bs T))
          have o5 : Off DTs B w4 _ := Off.set F4 (.inr (.inr rfl)) hBr 0 (.string (bs T))
          have F5 := F4.set 0 (.string (bs T))
          go_upto_region 14 with fail
          obtain ⟨w5, hw5⟩ : ∃ w5, w5 = w4.setCell ⟨F, 0, none⟩ (.string (bs T)) := ⟨_, rfl⟩
          rw [← hw5] at k5 o5 F5 ⊢
          replace o5 := od.trans o5
          clear hw5 kd F4 g0 g1 gf hsl
          have F5 : Blk w5 F 94 #[.string (bs T), .int .i64 (f.sure : Nat)] := F5
          have g0 := F5.cell (i := 0) rfl
          have gf := F5.free 1
          have g1 := F5.cell (i := 1) rfl
          have k6 := k5.other F5 ndk_file 1 (.int .i64 (T.length : Nat))
          have o6 : Off DTs B w5 _ := Off.set F5 (.inr (.inr rfl)) hBr 1 (.int .i64 (T.length : Nat))
          have F6 := F5.set 1 (.int .i64 (T.length : Nat))
          go_upto_region 15 with fail
          obtain ⟨w6, hw6⟩ : ∃ w6, w6 = w5.setCell ⟨F, 1, none⟩ (.int .i64 (T.length : Nat)) := ⟨_, rfl⟩
          rw [← hw6] at k6 o6 F6 ⊢
          replace o6 := o5.trans o6
          clear hw6 F5 k5 g0 gf g1
          have F6 : Blk w6 F 94 #[.string (bs T), .int .i64 (T.length : Nat)] := F6
          obtain ⟨g0, g1⟩ := Blk.c2 F6
          have c1 := k6.dk.cell (i := 1) rfl
          have kd := k6.below (Below.refl _ w6).drew
          obtain ⟨w7, hup, hm7, hg7⟩ := kd.mp.upd fm_ty (crJ_srt hsrt.out cs j) (by
            have := congrArg List.length (crJ_names d.fs cs j)
            rw [List.length_map, List.length_map] at this
            rw [this]; unfold maxLen; omega) n (by unfold maxLen; omega) ⟨T, T.length⟩
          simp only [fiV] at hup
          have k7 := kd.files hm7 hg7
          have o7 := kd.off_map hB hg7
          replace o7 := o6.trans ((Off.of_below (Below.refl _ w6).drew (hiW k6 hB)).trans o7)
          clear hm7 hg7
          go_region
          clear g0 g1 c1 hup kd F6
          have hlz := hst.out.2.1
          have hfz := hst.out.1
          have hKZ : ({ fs := fput (crJ d.fs cs j) n ⟨T, T.length⟩, room := d.room, used := d.used - (lost (d.fs.take j) cs : Nat) - ((f.s.length : Int) - (f.sure : Int)), fz := Fz.none_ } : Ds) = { fs := crJ d.fs cs (j + 1), room := d.room, used := d.used - (lost (d.fs.take (j + 1)) cs : Nat), fz := Fz.none_ } := by
            rw [hfz, hlz, hTl.out, hT.out]
            congr 1
            omega
          replace hKZ := Lib.hid hKZ
          replace k7 : DkAt w7 h { fs := fput (crJ d.fs cs j) n ⟨T, T.length⟩, room := d.room, used := d.used - (lost (d.fs.take j) cs : Nat) - ((f.s.length : Int) - (f.sure : Int)), fz := Fz.none_ } := ⟨⟨a, b, k7, kx⟩, kq, kn⟩
          rw [hKZ.out] at k7
          replace k7 := Lib.hid k7
          replace o7 := Lib.hid o7
          clear hlz hfz
          go_wp2_with fail
          go_roundw
          case rel => exact ⟨j + 1, by go_num, by omega, by rw [hst.out.2.2]; go_num, k7, o7⟩
          case measure => simp [intOf]; omega
        · skip
          go_upto_region 12 with fail
          have hba : Below wr.heap.size wr (wr.alloc (.cells #[.string (bs f.s), .int .i64 (f.sure : Nat)] 94)) := (Below.refl _ _).alloc (Nat.le_refl _) _
          have F3 : Blk (wr.alloc (.cells #[.string (bs f.s), .int .i64 (f.sure : Nat)] 94)) wr.heap.size 94 #[.string (bs f.s), .int .i64 (f.sure : Nat)] := Blk.new wr _ _
          have hBr := hiA hk.out hB
          obtain ⟨F, hF⟩ : ∃ F, F = wr.heap.size := ⟨_, rfl⟩
          obtain ⟨w3, hw3⟩ : ∃ w3, w3 = wr.alloc (.cells #[.string (bs f.s), .int .i64 (f.sure : Nat)] 94) := ⟨_, rfl⟩
          rw [← hw3] at hba F3 ⊢
          rw [← hF] at F3 hBr ⊢
          have k3 := hk.out.below hba
          have o3 := ho.out.trans (Off.of_below hba (by omega))
          clear hw3 hba hF
          obtain ⟨⟨a, b, kc, kx⟩, kq, kn⟩ := k3
          simp only at kc
          have c3 := kc.dk.cell (i := 3) rfl
          have f3 := kc.dk.free 3
          have kd := kc.setD (d.used - (lost (d.fs.take j) cs : Nat) - ((f.s.length : Int) - (f.sure : Int) - (K : Int)))
          have od := o3.trans (offD kc hB 3 (.int .i64 (d.used - (lost (d.fs.take j) cs : Nat) - ((f.s.length : Int) - (f.sure : Int) - (K : Int)))))
          have F4 := blk_set F3 kc.dk (by decide) 3 (.int .i64 (d.used - (lost (d.fs.take j) cs : Nat) - ((f.s.length : Int) - (f.sure : Int) - (K : Int))))
          go_upto_region 13 with fail
          obtain ⟨w4, hw4⟩ : ∃ w4, w4 = w3.setCell ⟨h.D, 3, none⟩ (.int .i64 (d.used - (lost (d.fs.take j) cs : Nat) - ((f.s.length : Int) - (f.sure : Int) - (K : Int)))) := ⟨_, rfl⟩
          rw [← hw4] at kd od F4 ⊢
          clear hw4 kc c3 f3 F3
          obtain ⟨T, hT⟩ : ∃ T, T = f.s.take (f.sure + K) := ⟨_, rfl⟩
          have hTl : T.length = f.sure + K := by rw [hT, List.length_take, Nat.min_eq_left (by omega)]
          have hsl : ∀ w, (Instr.slice 9 (.string (bs f.s)) none (some (.int .i64 ((f.sure : Int) + (K : Int)))) none).run Tryz.prog w = .ok (.string (bs T)) w := fun w => by
            have := slice_to (P := Tryz.prog) Tryz.underlying9 f.s (f.sure + K) (by omega) w
            rw [hT]
            simpa using this
          have hTu : T.length ≤ 9223372036854775807 := by omega
          replace hT := Lib.hid hT
          replace hTl := Lib.hid hTl
          obtain ⟨g0, g1⟩ := Blk.c2 F4
          have gf := F4.free 0
          have k5 := kd.other F4 ndk_file 0 (.string (bs T))
          have o5 : Off DTs B w4 _ := Off.set F4 (.inr (.inr rfl)) hBr 0 (.string (bs T))
          have F5 := F4.set 0 (.string (bs T))
          go_upto_region 14 with fail
          obtain ⟨w5, hw5⟩ : ∃ w5, w5 = w4.setCell ⟨F, 0, none⟩ (.string (bs T)) := ⟨_, rfl⟩
          rw [← hw5] at k5 o5 F5 ⊢
          replace o5 := od.trans o5
          clear hw5 kd F4 g0 g1 gf hsl
          have F5 : Blk w5 F 94 #[.string (bs T), .int .i64 (f.sure : Nat)] := F5
          have g0 := F5.cell (i := 0) rfl
          have gf := F5.free 1
          have g1 := F5.cell (i := 1) rfl
          have k6 := k5.other F5 ndk_file 1 (.int .i64 (T.length : Nat))
          have o6 : Off DTs B w5 _ := Off.set F5 (.inr (.inr rfl)) hBr 1 (.int .i64 (T.length : Nat))
          have F6 := F5.set 1 (.int .i64 (T.length : Nat))
          go_upto_region 15 with fail
          obtain ⟨w6, hw6⟩ : ∃ w6, w6 = w5.setCell ⟨F, 1, none⟩ (.int .i64 (T.length : Nat)) := ⟨_, rfl⟩
          rw [← hw6] at k6 o6 F6 ⊢
          replace o6 := o5.trans o6
          clear hw6 F5 k5 g0 gf g1
          have F6 : Blk w6 F 94 #[.string (bs T), .int .i64 (T.length : Nat)] := F6
          obtain ⟨g0, g1⟩ := Blk.c2 F6
          have c1 := k6.dk.cell (i := 1) rfl
          have kd := k6.below (Below.refl _ w6).drew
          obtain ⟨w7, hup, hm7, hg7⟩ := kd.mp.upd fm_ty (crJ_srt hsrt.out cs j) (by
            have := congrArg List.length (crJ_names d.fs cs j)
            rw [List.length_map, List.length_map] at this
            rw [this]; unfold maxLen; omega) n (by unfold maxLen; omega) ⟨T, T.length⟩
          simp only [fiV] at hup
          have k7 := kd.files hm7 hg7
          have o7 := kd.off_map hB hg7
          replace o7 := o6.trans ((Off.of_below (Below.refl _ w6).drew (hiW k6 hB)).trans o7)
          clear hm7 hg7
          go_region
          clear g0 g1 c1 hup kd F6
          have hlz := hst.out.2.1
          have hfz := hst.out.1
          have hKZ : ({ fs := fput (crJ d.fs cs j) n ⟨T, T.length⟩, room := d.room, used := d.used - (lost (d.fs.take j) cs : Nat) - ((f.s.length : Int) - (f.sure : Int) - (K : Int)), fz := Fz.none_ } : Ds) = { fs := crJ d.fs cs (j + 1), room := d.room, used := d.used - (lost (d.fs.take (j + 1)) cs : Nat), fz := Fz.none_ } := by
            rw [hfz, hlz, hTl.out, hT.out]
            congr 1
            omega
          replace hKZ := Lib.hid hKZ
          replace k7 : DkAt w7 h { fs := fput (crJ d.fs cs j) n ⟨T, T.length⟩, room := d.room, used := d.used - (lost (d.fs.take j) cs : Nat) - ((f.s.length : Int) - (f.sure : Int) - (K : Int)), fz := Fz.none_ } := ⟨⟨a, b, k7, kx⟩, kq, kn⟩
          rw [hKZ.out] at k7
          replace k7 := Lib.hid k7
          replace o7 := Lib.hid o7
          clear hlz hfz
          go_wp2_with fail
          go_roundw
          case rel => exact ⟨j + 1, by go_num, by omega, by rw [hst.out.2.2]; go_num, k7, o7⟩
          case measure => simp [intOf]; omega
    · have he : j = d.fs.length := by omega
      subst he
      rw [List.take_length, crJ_all] at hk
      rw [List.take_length]
      clear hjl
      go_wp2_with fail
      go_end0
      exact ⟨rfl, hk.out, O2.out.trans ho.out⟩
end Go.Proofs.YtcopknopifbebaaGreatDoor

namespace Go.Bar.Wal
open Go.RowKit Go.Bar Go.Proofs
def LTs (T : TypeId) : Prop := DTs T ∨ T = 82
theorem dlt : ∀ T, DTs T → LTs T := fun _ h => .inl h
def LgAt (w : World) (L : Nat) (h : Hd) (g : Lg) : Prop := Blk w L 82 #[.pointer (some ⟨h.D, 0, none⟩), .int .i64 g.limit, .int .i64 (g.seg : Nat), .int .i64 (g.size : Nat), .bool g.broken]
theorem nd_log : ¬ DTs 82 := fun c => by rcases c with c | c | c <;> exact absurd c (by decide)
theorem ndk_log : NDk 82 := ⟨by decide, by decide⟩
theorem LgAt.off {w w' : World} {L : Nat} {h : Hd} {g : Lg} {B : Nat} (k : LgAt w L h g) (o : Off DTs B w w') : LgAt w' L h g := o.kc.blk k nd_log
theorem LgAt.below {w w' : World} {L : Nat} {h : Hd} {g : Lg} (k : LgAt w L h g) (o : Below w.heap.size w w') : LgAt w' L h g := Blk.below k o
structure LgTo (B : Nat) (w : World) (L : Nat) (h : Hd) (r : Nat × Ds × Lg) (en : Ending) (w' : World) : Prop where
  ret : en = .returned (.int .i64 (r.1 : Nat))
  dk : DkAt w' h r.2.1
  lg : LgAt w' L h r.2.2
  off : Off LTs B w w'
end Go.Bar.Wal
namespace Go.Proofs.YtcopknopifbebaaGreatDoor
open Go.RowKit Go.Bar Go.Bar.Wal Go.Bar.Leb Go.Bar.Frm Go.Conc
attribute [local go_sem] Oper.semAt_some

set_option maxHeartbeats 4000000 in
theorem sick_any (w : World) (L : Nat) (h : Hd) (g : Lg) (e : Nat) (k : LgAt w L h g) (hb : g.broken = false) :
    Calls Tryz.prog 46 #[.pointer (some ⟨L, 0, none⟩), .int .i64 (e : Nat)] w fun en w' => en = .returned (.int .i64 (e : Nat)) ∧ w.setCell ⟨L, 4, none⟩ (.bool (e == 8)) = w' := by
  have k : Blk w L 82 #[.pointer (some ⟨h.D, 0, none⟩), .int .i64 g.limit, .int .i64 (g.seg : Nat), .int .i64 (g.size : Nat), .bool g.broken] := k
  rw [hb] at k
  have c4 := k.cell (i := 4) rfl
  have f4 := k.free 4
  have he : Hid ((e == 8) = decide ((e : Int) = 8)) := by
    show (e == 8) = decide ((e : Int) = 8)
    rw [Bool.eq_iff_iff]
    simp only [beq_iff_eq, decide_eq_true_eq]
    omega
  rw [he.out]
  go_enter Tryz.func46, Tryz.ntmps46
  go_wp2_with fail
  go_ret
  exact ⟨rfl, rfl⟩
end Go.Proofs.YtcopknopifbebaaGreatDoor
