/-
  Layer 11 (wal): what the library's variables hold; names of segments.
-/
import Derived.Test.YtnoebccoaeiakaaGreatDoorZWalH
import Derived.Sort.OwnSortedInts
import Derived.Test.YtnoebccoaeiakaaGreatDoorZFrmN
import Derived.Test.YtnoebccoaeiakaaGreatDoorZHdA
import Derived.Test.YtnoebccoaeiakaaGreatDoorZLib1
import Derived.Lib.Strings
import Derived.Test.YtnoebccoaeiakaaGreatDoorZLib4
import Derived.Deep.RegionLaw
import Derived.Test.YtnoebccoaeiakaaGreatDoorZLib16
import Derived.Test.YtnoebccoaeiakaaGreatDoorZWalV

namespace Go.Proofs.YtnoebccoaeiakaaGreatDoor
open Go.RowKit Go.Bar Go.Bar.Wal Go.Conc
attribute [local go_sem] Oper.semAt_some

structure EnvAt (w : World) : Prop where
  tab : Lib.TabIs Tryz.prog w "internal/strconv.uint64pow10" .u64 Lib.pow10Tab
  es : ∃ tp p, w.var? Tryz.prog "strconv.ErrSyntax" = some #[.iface tp p]
  er : ∃ tp p, w.var? Tryz.prog "strconv.ErrRange" = some #[.iface tp p]
theorem var_bel {w w' : World} {B g : Nat} {n : String} {x : Array Value} (hg : Tryz.prog.globalNamed n = some g) (h : w.var? Tryz.prog n = some x) (hb : Below B w w') (hB : g < B) : w'.var? Tryz.prog n = some x := by
  unfold World.var? at h ⊢
  rw [hg] at h ⊢
  simp only [Option.bind_some] at h ⊢
  rw [hb.block g hB]
  exact h
theorem EnvAt.bel {w w' : World} {B : Nat} (h : EnvAt w) (hb : Below B w w') (hB : 4 ≤ B) : EnvAt w' := by
  obtain ⟨h1, ⟨t1, p1, h2⟩, ⟨t2, p2, h3⟩⟩ := h
  exact ⟨var_bel (g := 1) (by kernel_rfl) h1 hb (by omega), ⟨t1, p1, var_bel (g := 2) (by kernel_rfl) h2 hb (by omega)⟩, ⟨t2, p2, var_bel (g := 3) (by kernel_rfl) h3 hb (by omega)⟩⟩
theorem EnvAt.four {w : World} (h : EnvAt w) : 4 ≤ w.heap.size := by
  obtain ⟨t, p, h3⟩ := h.er
  unfold World.var? at h3
  rw [show Tryz.prog.globalNamed "strconv.ErrRange" = some 3 by kernel_rfl] at h3
  simp only [Option.bind_some] at h3
  rcases Nat.lt_or_ge 3 w.heap.size with h' | h'
  · exact h'
  · rw [Array.getElem?_eq_none h'] at h3; cases h3
theorem EnvAt.below {w w' : World} (h : EnvAt w) (hb : Below w.heap.size w w') : EnvAt w' := h.bel hb h.four
theorem below_grow (w : World) (k : Nat) (os : Array Obj) : Below w.heap.size w (Sort.grow (w.drewN k) os) := by
  refine (below_draws w k).trans ⟨rfl, rfl, rfl, by simp [Sort.grow], fun j hj => ?_⟩
  show ((w.drewN k).heap ++ os)[j]? = _
  rw [Array.getElem?_append_left (by simpa using hj)]
theorem itoa_any (w : World) (hE : EnvAt w) (n : Nat) (hn : n ≤ 9223372036854775807) : Calls Tryz.prog 53 #[.int .i64 (n : Nat)] w (RetBelow w (.string (bs (Lib.decDigits n)))) := by
  refine (Tryz.strconv_Itoa n (by omega) (by omega) w hE.tab).mono ?_
  rintro e w' ⟨rfl, k, os, rfl⟩
  exact ⟨by rw [Lib.itoa_nonneg]; rfl, below_grow w k os⟩
theorem repeatL_zero (c : Nat) : Lib.repeatL [48] c = List.replicate c 48 := by
  induction c with
  | zero => rfl
  | succ c ih => rw [List.replicate_succ, ← ih]; rfl
theorem repeat_any (w : World) (c : Nat) (hc : c ≤ 8) : Calls Tryz.prog 54 #[.string (bs [48]), .int .i64 (c : Nat)] w (RetBelow w (.string (bs (List.replicate c 48)))) := by
  refine (Tryz.strings_Repeat (bs [48]) c w (by omega) (by show 1 * c ≤ _; omega)).mono ?_
  rintro e w' ⟨rfl, hb⟩
  exact ⟨by rw [← repeatL_zero]; rfl, hb⟩
set_option maxHeartbeats 400000 in
set_option maxRecDepth 10000 in
theorem name_any (w : World) (hE : EnvAt w) (n : Nat) (hn : n ≤ 9223372036854775807) : Calls Tryz.prog 23 #[.int .i64 (n : Nat)] w (RetBelow w (.string (bs (segN n)))) := by
  have h1 := Lib.hid (itoa_any w hE n hn)
  have hdl : (Lib.decDigits n).length ≤ 19 := (pad_d10 18 n (by omega)).1
  obtain ⟨D, hD⟩ : ∃ D, D = Lib.decDigits n := ⟨_, rfl⟩
  have hseg : segN n = pre ++ (List.replicate (8 - D.length) 48 ++ D) := by rw [hD]; rfl
  rw [hseg]
  rw [← hD] at h1 hdl
  clear hseg hD
  obtain ⟨R, hR⟩ : ∃ R : List UInt8, R = List.replicate (8 - D.length) 48 := ⟨_, rfl⟩
  have hRl : R.length ≤ 8 := by rw [hR, List.length_replicate]; omega
  rw [← hR]
  have h2 := fun w => repeat_any w (8 - D.length) (by omega)
  rw [← hR] at h2
  clear hR
  have h2 := Lib.hid h2
  have e3 : ((8 - D.length : Nat) : Int) = max (8 - (D.length : Int)) 0 := by omega
  rw [e3] at h2
  have h3 : Hid (∀ w, Calls Tryz.prog 54 #[.string { data := #[48] }, .int .i64 (max (8 - (D.length : Int)) 0)] w (RetBelow w (.string (bs R)))) := h2
  clear h2 e3
  have hstr : ({ data := #[119, 97, 108, 45] } : ByteArray) ++ bs R ++ bs D = bs (pre ++ (R ++ D)) := by
    rw [← List.append_assoc, ← bs_append, ← bs_append]; rfl
  replace hstr := Lib.hid hstr
  go_enter Tryz.func23, Tryz.ntmps23
  go_wp2_with (first
    | (go_at_call 53; refine h1.out.mono ?_; rintro e w1 ⟨rfl, hb1⟩)
    | (go_at_call 54; refine (h3.out _).mono ?_; rintro e w2 ⟨rfl, hb2⟩))
  go_ret
  exact ⟨by rw [← hstr.out]; rfl, below_trans hb1 hb2⟩
theorem atoi_any (w : World) (hE : EnvAt w) (s : List UInt8) (hs : s.length ≤ 1000) : Calls Tryz.prog 94 #[.string (bs s)] w fun e w' => Below w.heap.size w w' ∧
    ((∃ v, Lib.atoiAll s = .ok v ∧ e = .returned (.tuple #[.int .i64 v, .nilIface])) ∨ ((∀ v, Lib.atoiAll s ≠ .ok v) ∧ ∃ n t p, e = .returned (.tuple #[.int .i64 n, .iface t p]))) := by
  have e0 : (bs s).data.toList = s := by simp [bs]
  cases h : Lib.atoiAll s with
  | ok v =>
    refine (Tryz.strconv_Atoi_ok (bs s) (by rw [bs_size]; omega) v (by rw [e0]; exact h) w).mono ?_
    rintro e w' ⟨rfl, hw⟩
    refine ⟨?_, .inl ⟨v, rfl, rfl⟩⟩
    rcases hw with rfl | ⟨t, rfl⟩
    · exact Below.refl _ _
    · exact Lib.bytesWorld_below _ _ _
  | range =>
    obtain ⟨tp, p, hv⟩ := hE.er
    refine (Tryz.strconv_Atoi_range_var (bs s) (by rw [bs_size]; omega) (by rw [e0]; exact h) tp p w hv).mono ?_
    rintro e w' ⟨N, rfl, _, _, hb⟩
    exact ⟨hb, .inr ⟨fun v hv => (by cases hv), _, _, _, rfl⟩⟩
  | _ =>
    obtain ⟨tp, p, hv⟩ := hE.es
    refine (Tryz.strconv_Atoi_syntax_var (bs s) (by rw [bs_size]; omega) (by rw [e0]; exact h) tp p w hv).mono ?_
    rintro e w' ⟨N, rfl, _, _, hb⟩
    exact ⟨hb, .inr ⟨fun v hv => (by cases hv), _, _, _, rfl⟩⟩
theorem num_ok {s : Nm} {v : Int} (h : Lib.atoiAll (trimP [119, 97, 108, 45] s) = .ok v) (h1 : 1 ≤ v) (h2 : v ≤ 1099511627776) : numN s = if segN v.toNat = s then v.toNat else 0 := by
  have e : numOf (trim s) = v.toNat := by
    unfold numOf
    have : trim s = trimP [119, 97, 108, 45] s := rfl
    rw [this, h]
    simp only
    rw [if_pos ⟨h1, h2⟩]
  unfold numN
  rw [e]
theorem num_no {s : Nm} (h : ∀ v, Lib.atoiAll (trimP [119, 97, 108, 45] s) = .ok v → ¬ (1 ≤ v ∧ v ≤ 1099511627776)) : numN s = 0 := by
  have e : numOf (trim s) = 0 := by
    unfold numOf
    have : trim s = trimP [119, 97, 108, 45] s := rfl
    rw [this]
    cases hc : Lib.atoiAll (trimP [119, 97, 108, 45] s) with
    | ok v => simp only; rw [if_neg (h v hc)]
    | _ => rfl
  unfold numN
  rw [e]
  split <;> rfl
set_option maxHeartbeats 4000000 in
set_option maxRecDepth 10000 in
theorem number_any (w : World) (hE : EnvAt w) (s : Nm) (hs : s.length ≤ 100) : Calls Tryz.prog 55 #[.string (bs s)] w (RetBelow w (.int .i64 (numN s : Nat))) := by
  have htp := Lib.hid (trimPrefix_any s [119, 97, 108, 45] (by unfold maxLen; omega) (by decide) w)
  have htl : (trimP [119, 97, 108, 45] s).length ≤ 1000 := by
    unfold trimP
    split
    · rw [List.length_drop]; omega
    · omega
  obtain ⟨N, hN⟩ : ∃ N, N = numN s := ⟨_, rfl⟩
  rw [← hN]
  have hE' := Lib.hid hE
  obtain ⟨T, hT⟩ : ∃ T, T = trimP [119, 97, 108, 45] s := ⟨_, rfl⟩
  have hok := fun v => num_ok (s := s) (v := v)
  have hno := num_no (s := s)
  rw [← hT] at htp htl hok hno
  rw [← hN] at hno
  simp only [← hN] at hok
  clear hT hN
  have hat := Lib.hid (atoi_any w hE T htl)
  replace hok := Lib.hid hok
  replace hno := Lib.hid hno
  replace htp : Hid (Calls Tryz.prog 95 #[.string (bs s), .string { data := #[119, 97, 108, 45] }] w fun e w' => e = .returned (.string (bs T)) ∧ w = w') := htp
  clear hE
  have hsl : s.length ≤ 9223372036854775807 := by omega
  go_enter Tryz.func55, Tryz.ntmps55
  go_upto_region 2 with (first
    | (go_at_call 95; refine htp.out.mono ?_; rintro e w1 ⟨rfl, rfl⟩)
    | (go_at_call 94; refine hat.out.mono ?_; rintro e w1 ⟨hb1, hr⟩; rcases hr with ⟨v, hv, rfl⟩ | ⟨hv, n, t, p, rfl⟩))
  · by_cases hlow : v < 1
    · have h0 := Lib.hid (hno.out (fun v' hv' => by rw [hv] at hv'; injection hv' with e; subst e; omega))
      clear hv
      go_wp2_with fail
      go_ret
      exact ⟨by rw [h0.out]; rfl, hb1⟩
    · by_cases hhigh : 1099511627776 < v
      · have h0 := Lib.hid (hno.out (fun v' hv' => by rw [hv] at hv'; injection hv' with e; subst e; omega))
        clear hv
        go_wp2_with fail
        go_ret
        exact ⟨by rw [h0.out]; rfl, hb1⟩
      · obtain ⟨m, rfl⟩ : ∃ m : Nat, v = (m : Int) := ⟨v.toNat, by omega⟩
        have h0 := Lib.hid (hok.out _ hv (by omega) (by omega))
        clear hv
        have hnm := Lib.hid (name_any w1 (hE'.out.below hb1) m (by omega))
        rw [Int.toNat_natCast] at h0
        by_cases hsm : segN m = s
        · have h1 : Hid (N = m) := by have := h0.out; rwa [if_pos hsm] at this
          clear h0
          rw [hsm] at hnm
          clear hsm
          go_wp2_with (go_at_call 23; refine hnm.out.mono ?_; rintro e w2 ⟨rfl, hb2⟩)
          go_ret
          exact ⟨by rw [h1.out]; rfl, below_trans hb1 hb2⟩
        · have h1 : Hid (N = 0) := by have := h0.out; rwa [if_neg hsm] at this
          clear h0
          obtain ⟨S, hS⟩ : ∃ S, S = segN m := ⟨_, rfl⟩
          rw [← hS] at hnm hsm
          clear hS
          have hsb : (S == s) = false := by simpa using hsm
          go_wp2_with (go_at_call 23; refine hnm.out.mono ?_; rintro e w2 ⟨rfl, hb2⟩)
          go_ret
          exact ⟨by rw [h1.out]; rfl, below_trans hb1 hb2⟩
  · have h0 := Lib.hid (hno.out (fun v' hv' => absurd hv' (hv v')))
    clear hv
    go_wp2_with fail
    go_ret
    exact ⟨by rw [h0.out]; rfl, hb1⟩
end Go.Proofs.YtnoebccoaeiakaaGreatDoor

namespace Go.Proofs.YtnoebccoaeiakaaGreatDoor
open Go.RowKit Go.Bar Go.Bar.Wal Go.Conc
attribute [local go_sem] Oper.semAt_some

theorem str_tyw : ElemTy Tryz.prog 129 9 (.string ByteArray.empty) 1 16 :=
  ⟨Tryz.underlying129, info_parts (show (Tryz.prog.info? 9).map (fun i => (i.zero, i.size, i.bytes)) = some (some (.string ByteArray.empty), 1, 16) by kernel_rfl), rfl⟩
theorem scs_at {l : List (List UInt8)} {i : Nat} {s : List UInt8} (h : l[i]? = some s) : (scs l)[i]? = some (.string (bs s)) := by unfold scs; rw [List.getElem?_map, h]; rfl
theorem scs_snoc (l : List (List UInt8)) (s : List UInt8) : scs (l ++ [s]) = scs l ++ [.string (bs s)] := by unfold scs; rw [List.map_append]; rfl
def fl (p : List UInt8) (l : List Nm) : List Nm := l.filter fun n => p.isPrefixOf n
theorem fl_next {p : List UInt8} {l : List Nm} {j : Nat} {s : Nm} (h : l[j]? = some s) : fl p (l.take (j + 1)) = fl p (l.take j) ++ (if p.isPrefixOf s then [s] else []) := by
  unfold fl
  rw [List.take_add_one, h, Option.toList_some, List.filter_append, List.filter_cons, List.filter_nil]
theorem fl_len (p : List UInt8) (l : List Nm) : (fl p l).length ≤ l.length := List.length_filter_le _ _
set_option maxHeartbeats 4000000 in
set_option maxRecDepth 10000 in
theorem dList_any (w : World) (h : Hd) (d : Ds) (c : Nat) (k : DkAt w h d) (ha : Acc c d) (hc : c ≤ 100000000) (p : List UInt8) (hp : p.length ≤ maxLen) :
    Calls Tryz.prog 46 #[.pointer (some ⟨h.D, 0, none⟩), .string (bs p)] w fun e w' => ∃ v, e = .returned v ∧ Buf w' 9 1 v (d.list p).length (scs (d.list p)) ∧ Below w.heap.size w w' := by
  have hx1 := (d_cells k).2
  have hkeys := Lib.hid (keys_any h.M w)
  have hnum := ha.num
  have hsrt := Lib.hid (sorted_any h.M d.fs w (by obtain ⟨⟨a, b, k1, _⟩, _, _⟩ := k; exact k1.mp) ha.srt (by omega))
  obtain ⟨L, hL⟩ : ∃ L, L = d.fs.map (·.1) := ⟨_, rfl⟩
  have hLn : L.length = d.fs.length := by rw [hL, List.length_map]
  have hdl : d.list p = fl p L := by rw [hL]; rfl
  have hnm : ∀ n ∈ L, n.length ≤ 40 := fun n hn => by
    rw [hL] at hn
    obtain ⟨q, hq, rfl⟩ := List.mem_map.1 hn
    exact ha.nm q hq
  rw [hdl]
  rw [← hL, ← hLn] at hsrt
  clear hL hdl
  replace hLn : L.length ≤ 100000000 := by omega
  go_enter Tryz.func46, Tryz.ntmps46
  go_wp2_with (first
    | (go_at_call 80; refine hkeys.out.mono ?_; rintro e w1 ⟨rfl, rfl⟩)
    | (go_at_call 79; refine hsrt.out.mono ?_; rintro e w1 ⟨v, rfl, hsl, hb1⟩; obtain ⟨A, cc, rfl, hlc, hcm⟩ := hsl.shape; unfold maxLen at hcm))
  have hB : Below w.heap.size w w1 := ((Below.refl _ w).alloc (Nat.le_refl _) (.cells #[.map (some h.M)] 48)).trans hb1
  have hB := Lib.hid hB
  clear hb1 hx1 hsrt hkeys k ha hnum
  go_loopw [5, 7, 15] (fun o _ i wr => ∃ j : Nat, i = .int .i64 (j : Nat) ∧ j ≤ L.length ∧ Hid (NBuf w1 wr 9 1 o (fl p (L.take j)).length (scs (fl p (L.take j))))) (fun _ _ i _ => L.length - (intOf i).toNat)
  case atStart => exact ⟨0, rfl, Nat.zero_le _, NBuf.nil (Below.refl _ _) _ _⟩
  case round =>
    obtain ⟨j, rfl, hj, hb⟩ := hrel
    by_cases hjl : j < L.length
    · obtain ⟨s, hs⟩ : ∃ s, L[j]? = some s := ⟨_, List.getElem?_eq_getElem hjl⟩
      have hsl2 := hsl.below hb.below
      obtain ⟨bb, oo, rfl, hlt, hcells⟩ := hsl2.cells (by omega)
      have hcell := hcells j _ (scs_at hs)
      have hsn := hnm s (List.mem_of_getElem? hs)
      have hpx := Lib.hid (hasPrefix_any s p (by unfold maxLen; omega) hp)
      have hnx := Lib.hid (fl_next (p := p) hs)
      have hfl : (fl p (L.take j)).length ≤ j := Nat.le_trans (fl_len _ _) (by rw [List.length_take]; omega)
      have hci : (0 : Int) ≤ (j : Int) := by omega
      have hci2 : (j : Int) < L.length := by omega
      have hb := Lib.hid hb
      clear hs hcells hsl2
      cases hpp : p.isPrefixOf s with
      | false =>
        rw [hpp] at hpx
        have e : Hid (fl p (L.take (j + 1)) = fl p (L.take j)) := by have := hnx.out; rw [hpp, if_neg (by decide), List.append_nil] at this; exact this
        clear hnx hpp
        go_wp2_with (go_at_call 81; refine (hpx.out _).mono ?_; rintro e w' ⟨rfl, rfl⟩)
        go_roundw
        case rel => exact ⟨j + 1, by go_num, by omega, by rw [e.out]; exact hb.out⟩
        case measure => simp [intOf]; omega
      | true =>
        rw [hpp] at hpx
        have e : Hid (fl p (L.take (j + 1)) = fl p (L.take j) ++ [s]) := by have := hnx.out; rw [hpp] at this; exact this
        clear hnx hpp
        go_wp2_with (first
          | (go_at_call 81; refine (hpx.out _).mono ?_; rintro e w' ⟨rfl, rfl⟩)
          | (at_builtin; refine wpList_append_nlit rfl (.tmp 22) (.tmp 24) 129 rfl str_tyw rfl hb.out rfl (by simp) rfl (by simp [Value.oneCell']) (by simp only [maxLen]; omega) (by omega) ?_; intro v2 w2 hn2 ha2))
        go_roundw
        case rel => exact ⟨j + 1, by go_num, by omega, by rw [e.out, scs_snoc, List.length_append]; exact hn2⟩
        case measure => simp [intOf]; omega
    · have he : j = L.length := by omega
      subst he
      rw [List.take_length] at hb
      clear hjl
      go_wp2_with fail
      go_ret
      exact ⟨_, rfl, NBuf.buf hb, hB.out.trans (hb.below.mono hB.out.size)⟩
end Go.Proofs.YtnoebccoaeiakaaGreatDoor

namespace Go.Bar
open Go.RowKit Go.Sort Go.Proofs
theorem buf_sorted {w : World} {e : TypeId} {b o n c : Nat} {zs ts : List Int} (h : Buf w e 1 (.slice (some ⟨b, o, none⟩) n c) n (zs.map (Value.int .i64))) (hn : 0 < n) (hl : ts.length = zs.length) (q : Nat) (os : Array Obj) :
    Holds (Value.int .i64) w b o zs.toArray ∧ b < w.heap.size ∧ zs.length = n ∧ Buf (grow (putRow (Value.int .i64) (Sort.ahead w q) b o ts.toArray) os) e 1 (.slice (some ⟨b, o, none⟩) n c) n (ts.map (Value.int .i64)) := by
  have hz : zs.length = n := by have := h.1; rwa [List.length_map, Nat.mul_one] at this
  obtain ⟨b', o', c', he, hlt, hnc, hcells, hfr⟩ := h.at_ hn
  injection he with h1 _ h2
  injection h1 with h1
  injection h1 with h3 h4 _
  subst h2; subst h3; subst h4
  have hH : Holds (Value.int .i64) w b o zs.toArray := fun j hj => by
    have hj' : j < zs.length := by simpa using hj
    refine ⟨?_, hfr j (by omega)⟩
    rw [hcells j (by omega), List.getElem?_map, List.getElem?_eq_getElem hj']
    simp [hj']
  refine ⟨hH, hlt, hz, ?_⟩
  obtain ⟨hlen, A, c', hv, hnc', hcm, hb⟩ := h
  injection hv with h1 _ h2
  subst h1; subst h2
  obtain ⟨b', o', cur, fr, hA, hblk, hs, hf, hx⟩ := hb (by omega)
  injection hA with hA
  injection hA with h3 h4 _
  subst h3; subst h4
  refine ⟨by rw [List.length_map, hl, hz, Nat.mul_one], _, c, rfl, hnc', hcm, fun _ => ⟨b, o, putCells (Value.int .i64) o ts.toArray cur, fr, rfl, ?_, by simpa [putCells] using hs, hf, fun i hi => ?_⟩⟩
  · rw [heap_grow_old _ _ (by simpa using hlt)]
    simp [putRow, mapBlock, Sort.ahead, Array.getElem?_modify, hblk, onCells]
  · have hi2 : i < ts.length := by omega
    have := hx i hi
    rw [List.getElem?_map, List.getElem?_eq_getElem (by omega)] at this
    simp only [putCells, Array.getElem?_mapIdx, this]
    simp [hi2]
theorem sorted_below {w : World} {B b o q : Nat} {ts : List Int} {os : Array Obj} (hb : B ≤ b) (hw : B ≤ w.heap.size) : Below B w (grow (putRow (Value.int .i64) (Sort.ahead w q) b o ts.toArray) os) := by
  refine ⟨rfl, rfl, rfl, by simp, fun k hk => ?_⟩
  rw [heap_grow_old _ _ (by simp; omega)]
  have : b ≠ k := by omega
  simp [putRow, mapBlock, Sort.ahead, Array.getElem?_modify, this]
end Go.Bar
namespace Go.Bar.Wal
open Go.RowKit Go.Bar
def ns (l : List Nm) : List Nat := (l.map numN).filter fun n => decide (0 < n)
theorem ns_next {l : List Nm} {j : Nat} {s : Nm} (h : l[j]? = some s) : ns (l.take (j + 1)) = ns (l.take j) ++ (if 0 < numN s then [numN s] else []) := by
  unfold ns
  rw [List.take_add_one, h, Option.toList_some, List.map_append, List.filter_append, List.map_cons, List.map_nil, List.filter_cons, List.filter_nil]
  simp only [decide_eq_true_eq]
theorem ns_len (l : List Nm) : (ns l).length ≤ l.length := by
  unfold ns
  exact Nat.le_trans (List.length_filter_le _ _) (by rw [List.length_map]; exact Nat.le_refl _)
def ncs (l : List Nat) : List Value := l.map fun n : Nat => .int .i64 (n : Int)
theorem ncs_snoc (l : List Nat) (s : Nat) : ncs (l ++ [s]) = ncs l ++ [.int .i64 (s : Int)] := by unfold ncs; rw [List.map_append]; rfl
theorem ncs_eq (l : List Nat) : ncs l = (l.map fun n : Nat => (n : Int)).map (Value.int .i64) := by unfold ncs; rw [List.map_map]; rfl
theorem ncs_at {l : List Nat} {i : Nat} {s : Nat} (h : l[i]? = some s) : (ncs l)[i]? = some (.int .i64 (s : Int)) := by unfold ncs; rw [List.getElem?_map, h]; rfl
theorem sort_cast (l : List Nat) : (l.map fun n : Nat => (n : Int)).mergeSort (fun x y => decide (x ≤ y)) = (l.mergeSort fun x y => decide (x ≤ y)).map fun n : Nat => (n : Int) := by
  rw [List.map_mergeSort (s := fun x y => decide (x ≤ y)) (fun a _ b _ => by simp)]
end Go.Bar.Wal
namespace Go.Proofs.YtnoebccoaeiakaaGreatDoor
open Go.RowKit Go.Bar Go.Bar.Wal Go.Conc
attribute [local go_sem] Oper.semAt_some

theorem int_tyw : ElemTy Tryz.prog 23 3 (.int .i64 0) 1 8 :=
  ⟨Tryz.underlying23, info_parts (show (Tryz.prog.info? 3).map (fun i => (i.zero, i.size, i.bytes)) = some (some (.int .i64 0), 1, 8) by kernel_rfl), rfl⟩
theorem sortI_any {w0 w : World} {v : Value} {l : List Nat} (hb : NBuf w0 w 3 1 v l.length (ncs l)) (hl : l.length ≤ 1000000000) :
    Calls Tryz.prog 56 #[v] w fun e w' => e = .returned (.tuple #[]) ∧ NBuf w0 w' 3 1 v l.length (ncs (l.mergeSort fun x y => decide (x ≤ y))) := by
  obtain ⟨A, c, rfl, hlc, hcm⟩ := hb.slice.shape
  rcases Nat.eq_zero_or_pos l.length with h0 | h0
  · have hl0 : l = [] := List.length_eq_zero_iff.1 h0
    subst hl0
    refine (Tryz.slices_Sort_int_none A c w).mono ?_
    rintro e w' ⟨rfl, rfl⟩
    refine ⟨rfl, ?_⟩
    rw [show ([] : List Nat).mergeSort (fun x y => decide (x ≤ y)) = [] by simp]
    exact hb
  · obtain ⟨b, o, c', he, hlt, _⟩ := hb.buf.at_ h0
    injection he with h1 _ h2
    subst h1; subst h2
    have hbb := hb.buf
    rw [ncs_eq] at hbb
    have hs := fun q os => buf_sorted (ts := ((l.mergeSort fun x y => decide (x ≤ y)).map fun n : Nat => (n : Int))) hbb h0 (by rw [List.length_map, List.length_map, List.length_mergeSort]) q os
    have hc := Tryz.slices_Sort_int b o c (l.map fun n : Nat => (n : Int)) w (hs 0 #[]).1 hlt (by rw [List.length_map]; omega)
    rw [List.length_map] at hc
    refine hc.mono ?_
    rintro e w' ⟨rfl, q, os, rfl⟩
    rw [sort_cast]
    refine ⟨rfl, ?_, hb.below.trans (sorted_below (hb.new b rfl) hb.below.size), hb.new⟩
    rw [ncs_eq]
    exact (hs q os).2.2.2
set_option maxHeartbeats 4000000 in
set_option maxRecDepth 10000 in
theorem segments_any (w : World) (h : Hd) (d : Ds) (c : Nat) (k : DkAt w h d) (hE : EnvAt w) (ha : Acc c d) (hc : c ≤ 100000000) :
    Calls Tryz.prog 25 #[.pointer (some ⟨h.D, 0, none⟩)] w fun e w' => ∃ v, e = .returned v ∧ NBuf w w' 3 1 v (segsOf d).length (ncs (segsOf d)) := by
  have hlist := Lib.hid (dList_any w h d c k ha hc pre (by decide))
  have hnum := ha.num
  obtain ⟨L, hL⟩ : ∃ L, L = d.list pre := ⟨_, rfl⟩
  have hLn : L.length ≤ 100000000 := by
    rw [hL]
    unfold Ds.list
    exact Nat.le_trans (List.length_filter_le _ _) (by rw [List.length_map]; omega)
  have hnm : ∀ n ∈ L, n.length ≤ 40 := fun n hn => by
    rw [hL] at hn
    obtain ⟨q, hq, rfl⟩ := List.mem_map.1 (List.mem_filter.1 hn).1
    exact ha.nm q hq
  have hsg : segsOf d = (ns L).mergeSort (fun a b => decide (a ≤ b)) := by rw [hL]; rfl
  have hsl : ((ns L).mergeSort (fun a b => decide (a ≤ b))).length = (ns L).length := List.length_mergeSort _
  rw [hsg, hsl]
  rw [← hL] at hlist
  clear hsg hL hsl k ha
  replace hlist : Hid (Calls Tryz.prog 46 #[.pointer (some ⟨h.D, 0, none⟩), .string { data := #[119, 97, 108, 45] }] w fun e w' => ∃ v, e = .returned v ∧ Buf w' 9 1 v L.length (scs L) ∧ Below w.heap.size w w') := hlist
  go_enter Tryz.func25, Tryz.ntmps25
  go_wp2_with (go_at_call 46; refine hlist.out.mono ?_; rintro e w1 ⟨v, rfl, hbuf, hb1⟩; obtain ⟨A, cc, rfl, hlc, hcm⟩ := (SlAt.of_buf hbuf).shape; unfold maxLen at hcm)
  have HB := Lib.hid hb1
  clear hb1 hlist
  go_loopw [3, 10] (fun o i wr => ∃ j : Nat, i = .int .i64 (j : Nat) ∧ j ≤ L.length ∧ Hid (NBuf w1 wr 3 1 o (ns (L.take j)).length (ncs (ns (L.take j))))) (fun _ i _ => L.length - (intOf i).toNat)
  case atStart => exact ⟨0, rfl, Nat.zero_le _, NBuf.nil (Below.refl _ _) _ _⟩
  case round =>
    obtain ⟨j, rfl, hj, hb⟩ := hrel
    by_cases hjl : j < L.length
    · obtain ⟨s, hs⟩ : ∃ s, L[j]? = some s := ⟨_, List.getElem?_eq_getElem hjl⟩
      have hsl2 := (SlAt.of_buf hbuf).below hb.below
      obtain ⟨bb, oo, rfl, hlt, hcells⟩ := hsl2.cells (by omega)
      have hcell := hcells j _ (scs_at hs)
      have hsn := hnm s (List.mem_of_getElem? hs)
      have hnb := Lib.hid (number_any wr ((hE.below HB.out).below hb.below) s (by omega))
      have hnx := Lib.hid (ns_next hs)
      have hfl : (ns (L.take j)).length ≤ j := Nat.le_trans (ns_len _) (by rw [List.length_take]; omega)
      have hci : (0 : Int) ≤ (j : Int) := by omega
      have hci2 : (j : Int) < L.length := by omega
      have hb := Lib.hid hb
      obtain ⟨q, hq⟩ : ∃ q, q = numN s := ⟨_, rfl⟩
      rw [← hq] at hnb hnx
      clear hs hcells hsl2 hq
      by_cases h0 : 0 < q
      · have e : Hid (ns (L.take (j + 1)) = ns (L.take j) ++ [q]) := by have := hnx.out; rw [if_pos h0] at this; exact this
        clear hnx
        have h0i : (0 : Int) < (q : Int) := by omega
        go_wp2_with (first
          | (go_at_call 55; refine hnb.out.mono ?_; rintro e w2 ⟨rfl, hb2⟩; have hn2 := Lib.hid (hb.out.then_below hb2))
          | (at_builtin; refine wpList_append_nlit rfl (.tmp 18) (.tmp 20) 23 rfl int_tyw rfl hn2.out rfl (by simp) rfl (by simp [Value.oneCell']) (by simp only [maxLen]; omega) (by omega) ?_; intro v2 w3 hn3 ha3))
        go_roundw
        case rel => exact ⟨j + 1, by go_num, by omega, by rw [e.out, ncs_snoc, List.length_append]; exact hn3⟩
        case measure => simp [intOf]; omega
      · have e : Hid (ns (L.take (j + 1)) = ns (L.take j)) := by have := hnx.out; rw [if_neg h0, List.append_nil] at this; exact this
        have hq0 : q = 0 := by omega
        subst hq0
        clear hnx h0
        go_wp2_with (go_at_call 55; refine hnb.out.mono ?_; rintro e w2 ⟨rfl, hb2⟩; have hn2 := Lib.hid (hb.out.then_below hb2))
        go_roundw
        case rel => exact ⟨j + 1, by go_num, by omega, by rw [e.out]; exact hn2.out⟩
        case measure => simp [intOf]; omega
    · have he : j = L.length := by omega
      subst he
      rw [List.take_length] at hb
      clear hjl
      have hsrt := Lib.hid (sortI_any hb.out (Nat.le_trans (ns_len _) (by omega)))
      go_wp2_with (go_at_call 56; refine hsrt.out.mono ?_; rintro e w2 ⟨rfl, hn2⟩)
      go_ret
      exact ⟨_, rfl, hn2.after HB.out⟩
end Go.Proofs.YtnoebccoaeiakaaGreatDoor

namespace Go.Proofs.YtnoebccoaeiakaaGreatDoor
open Go.RowKit Go.Bar Go.Bar.Leb Go.Bar.Frm

def RecsAt (w : World) (v : Value) (rs : List Rc) : Prop := SlAt w 2 v rs.length (frcs rs)
theorem RecsAt.below {w w' : World} {v : Value} {rs : List Rc} (h : RecsAt w v rs) (hb : Below w.heap.size w w') : RecsAt w' v rs := SlAt.below h hb
theorem RecsAt.shape {w : World} {v : Value} {rs : List Rc} (h : RecsAt w v rs) : ∃ A c, v = .slice A rs.length c ∧ rs.length ≤ c ∧ c ≤ maxLen := SlAt.shape h
theorem RecsAt.at_ {w : World} {A : Option Addr} {n c i : Nat} {rs : List Rc} {k : UInt8} {d : List UInt8} (h : RecsAt w (.slice A n c) rs) (hi : rs[i]? = some (k, d)) : ∃ b o, A = some ⟨b, o, none⟩ ∧ b < w.heap.size ∧ w.cell? ⟨b, o + i * 2, none⟩ = some (.int .u8 k.toNat) ∧ w.cell? ⟨b, o + i * 2 + 1, none⟩ = some (.string (bs d)) := by
  have hlt : i < rs.length := (List.getElem?_eq_some_iff.1 hi).1
  obtain ⟨A', c', he, _⟩ := h.shape
  injection he with h1 h2 h3
  subst h1; subst h2; subst h3
  obtain ⟨b, o, rfl, hb, hc⟩ := SlAt.cells h (by omega)
  obtain ⟨g1, g2⟩ := flat2 (fun r : Rc => Value.int .u8 r.1.toNat) (fun r => .string (bs r.2)) rs i _ hi
  exact ⟨b, o, rfl, hb, hc _ _ g1, hc _ _ g2⟩
theorem rcs_length (rs : List Rc) : (frcs rs).length = rs.length * 2 := flat2_length _ _ rs

attribute [local go_sem ↓] Go.wp_at_zero Go.wp_at_succ

def ends (rs : List Rc) : List Nat := (List.range rs.length).map fun i => (laid (rs.take (i + 1))).length
theorem laid_next {rs : List Rc} {k : Nat} {r : Rc} (h : rs[k]? = some r) : laid (rs.take (k + 1)) = laid (rs.take k) ++ rec r := by
  rw [List.take_add_one, h]
  exact laid_snoc _ _

theorem law_own : ownKnob Tryz.prog.godebug = none := by kernel_rfl
theorem law_laid : laidOutB Tryz.prog = true := by kernel_rfl

end Go.Proofs.YtnoebccoaeiakaaGreatDoor

namespace Go.Proofs.YtnoebccoaeiakaaGreatDoor
open Go.RowKit Go.Bar Go.Bar.Wal Go.Bar.Leb Go.Bar.Frm Go.Conc
attribute [local go_sem] Oper.semAt_some

theorem rec_small (r : Rc) (h : r.2.length ≤ 1000) : (rec r).length ≤ 1015 := by
  rw [rec_len]
  have := u_len r.2.length (by omega)
  omega
theorem laid_small : ∀ (rs : List Rc), (∀ r ∈ rs, r.2.length ≤ 1000) → (laid rs).length ≤ 1015 * rs.length
  | [], _ => by simp [laid]
  | r :: rs, h => by
    rw [laid_cons, List.length_append, List.length_cons]
    have h1 := rec_small r (h r (List.mem_cons_self ..))
    have h2 := laid_small rs fun x hx => h x (List.mem_cons_of_mem _ hx)
    omega
set_option maxHeartbeats 1000000 in
set_option maxRecDepth 10000 in
theorem spell_any (v : Value) (rs : List Rc) (w : World) (h : RecsAt w v rs) (hn : rs.length ≤ 20) (hs : ∀ r ∈ rs, r.2.length ≤ 1000) : Calls Tryz.prog 37 #[v] w (RetBelow w (.string (bs (laid rs)))) := by
  obtain ⟨A, c, rfl, hlc, hcm⟩ := h.shape
  unfold maxLen at hcm
  go_enter Tryz.func37, Tryz.ntmps37
  go_wp2_with fail
  go_loopw [3, 8] (fun b i wr => ∃ k : Nat, k ≤ rs.length ∧ i = .int .i64 k ∧ NBuf w wr 5 1 b (laid (rs.take k)).length (bcs (laid (rs.take k)))) (fun _ i _ => rs.length - (intOf i).toNat)
  case atStart => 
    have e2 : laid (rs.take 0) = [] := by simp [laid]
    exact ⟨0, Nat.zero_le _, rfl, by rw [e2]; exact NBuf.nil (Below.refl _ _) _ _⟩
  case round =>
    obtain ⟨k, hk, rfl, hb⟩ := hrel
    by_cases hgo : k < rs.length
    · obtain ⟨⟨kd, d⟩, hki⟩ : ∃ r, rs[k]? = some r := ⟨_, List.getElem?_eq_getElem hgo⟩
      have hd := hs _ (List.mem_of_getElem? hki)
      simp only at hd
      have hl := laid_small (rs.take k) (fun r hr => hs r (List.mem_of_mem_take hr))
      rw [List.length_take] at hl
      obtain ⟨b, o, rfl, hlt, c0, c1⟩ := (h.below hb.below).at_ hki
      have H1 := Lib.hid (laid_next hki)
      have hb := Lib.hid hb
      have hci : (0 : Int) ≤ (k : Int) := by omega
      have hci2 : (k : Int) < rs.length := by omega
      clear hki
      go_upto_region 5 with fail
      go_wp2_with (go_at_call 64; refine (append_any _ (laid (rs.take k)) kd (bs d) _ (by rw [bs_size]; omega) (hb.out.alloc _).buf).mono ?_; rintro e w2 ⟨v2, rfl, hap⟩)
      have hb2 := (hb.out.alloc _).step hap.buf (App.ap hap) (App.grew hap)
      rw [bs_data, ← H1.out] at hb2
      go_roundw
      case rel => exact ⟨k + 1, by omega, by go_num, hb2⟩
      case measure => simp [intOf]; omega
    · rw [List.take_of_length_le (by omega)] at hb
      have hcv := BBuf.string (l := laid rs) bytes_ty hb.buf 9 Tryz.underlying9
      go_wp2_with fail
      go_ret
      exact ⟨rfl, hb.below⟩
theorem since_all {rs : List Rc} (h : ∀ r ∈ rs, r.1 ≠ 255) : since rs = rs := by
  have := since_append [] h
  simpa [since] using this
theorem since_drop {rs : List Rc} {i : Nat} {d : List UInt8} (hi : rs[i]? = some (255, d)) (h : ∀ r ∈ rs.drop (i + 1), r.1 ≠ 255) : since rs = rs.drop (i + 1) := by
  obtain ⟨hlt, e⟩ := List.getElem?_eq_some_iff.1 hi
  have h2 := since_reset (rs.take i) d h
  rw [← h2, ← e, ← List.drop_eq_getElem_cons hlt, List.take_append_drop]
theorem frcs_drop (rs : List Rc) (k : Nat) : (frcs rs).drop (k * 2) = frcs (rs.drop k) := by
  induction k generalizing rs with
  | zero => simp
  | succ k ih =>
    cases rs with
    | nil => simp [frcs]
    | cons r rs =>
      rw [List.drop_succ_cons, ← ih rs]
      show ([_, _] ++ frcs rs).drop ((k + 1) * 2) = _
      rw [show (k + 1) * 2 = k * 2 + 2 by omega]
      simp
theorem RecsAt.from_ {w : World} {A : Option Addr} {c : Nat} {rs : List Rc} (h : RecsAt w (.slice A rs.length c) rs) {k : Nat} (hk : k ≤ rs.length) : RecsAt w (.slice (dropA A c k 2) (rs.length - k) (c - k)) (rs.drop k) := by
  have := SlAt.part h k rs.length hk (Nat.le_refl _)
  rw [frcs_drop] at this
  have e : (frcs (rs.drop k)).length = (rs.length - k) * 2 := by rw [rcs_length, List.length_drop]
  rw [← e, List.take_length] at this
  unfold RecsAt
  rw [List.length_drop]
  exact this
set_option maxHeartbeats 1000000 in
set_option maxRecDepth 10000 in
theorem since_any (v : Value) (rs : List Rc) (w : World) (h : RecsAt w v rs) : Calls Tryz.prog 30 #[v] w fun e w' => ∃ v', e = .returned v' ∧ RecsAt w' v' (since rs) ∧ w = w' := by
  obtain ⟨A, c, rfl, hlc, hcm⟩ := h.shape
  unfold maxLen at hcm
  obtain ⟨ie, hie1, hie2, hie3⟩ := rec_ty.info
  go_enter Tryz.func30, Tryz.ntmps30
  go_wp2_with fail
  go_loopw [3] (fun i wr => ∃ k : Nat, k ≤ rs.length ∧ i = .int .i64 ((k : Int) - 1) ∧ Hid (∀ r ∈ rs.drop k, r.1 ≠ 255) ∧ wr = w) (fun i _ => (intOf i + 1).toNat)
  case atStart => exact ⟨rs.length, Nat.le_refl _, rfl, (fun r hr => by rw [List.drop_length] at hr; cases hr), rfl⟩
  case round =>
    obtain ⟨k, hk, rfl, hne, rfl⟩ := hrel
    rcases Nat.eq_zero_or_pos k with h0 | h0
    · subst h0
      have hs : Hid (since rs = rs) := by have := hne.out; rw [List.drop_zero] at this; exact since_all this
      have h := Lib.hid h
      go_wp2_with fail
      go_ret
      exact ⟨_, rfl, by rw [hs.out]; exact h.out, rfl⟩
    · obtain ⟨q, rfl⟩ : ∃ q, k = q + 1 := ⟨k - 1, by omega⟩
      have e1 : (((q + 1 : Nat) : Int) - 1) = (q : Int) := by omega
      rw [e1]
      obtain ⟨⟨kd, d⟩, hki⟩ : ∃ r, rs[q]? = some r := ⟨_, List.getElem?_eq_getElem (by omega)⟩
      obtain ⟨b, o, rfl, hlt, c0, c1⟩ := h.at_ hki
      have hci : (0 : Int) ≤ (q : Int) := by omega
      have hci2 : (q : Int) < rs.length := by omega
      by_cases hkd : kd = 255
      · subst hkd
        have hs := Lib.hid (since_drop hki hne.out)
        have hd := Lib.hid (RecsAt.from_ h hk)
        have hsl := fun w => run_slice_f (a := some ⟨b, o, none⟩) (n := rs.length) (c := c) Tryz.underlying30 hie1 hie3.1 (q + 1) hk hlc w
        clear hki hsl
        by_cases hcq : c = q + 1
        · have hd2 : RecsAt wr (.slice (some ⟨b, o, none⟩) (rs.length - (q + 1)) 0) (rs.drop (q + 1)) := by
            have := hd.out
            unfold dropA at this
            rw [if_pos hcq, show c - (q + 1) = 0 by omega] at this
            exact this
          have hd2 := Lib.hid hd2
          go_wp2_with fail
          go_ret
          exact ⟨_, rfl, by rw [hs.out]; exact hd2.out, rfl⟩
        · have hd2 : RecsAt wr (.slice (some ⟨b, o + (q + 1) * 2, none⟩) (rs.length - (q + 1)) (c - (q + 1))) (rs.drop (q + 1)) := by
            have := hd.out
            unfold dropA at this
            rw [if_neg hcq] at this
            exact this
          have hd2 := Lib.hid hd2
          go_wp2_with fail
          go_ret
          exact ⟨_, rfl, by rw [hs.out]; exact hd2.out, rfl⟩
      · have hne2 : Hid (∀ r ∈ rs.drop q, r.1 ≠ 255) := by
          have := hne.out
          obtain ⟨hlt, e⟩ := List.getElem?_eq_some_iff.1 hki
          rw [List.drop_eq_getElem_cons hlt, e]
          intro r hr
          rcases List.mem_cons.1 hr with rfl | hr
          · exact hkd
          · exact this r hr
        have hkb : (kd.toNat : Int) ≠ 255 := by
          intro e
          apply hkd
          have : kd.toNat = 255 := by omega
          exact UInt8.toNat_inj.1 this
        clear hki
        go_wp2_with fail
        go_roundw
        case rel => exact ⟨q, by omega, by go_num, hne2, trivial⟩
        case measure => simp [intOf] <;> omega
end Go.Proofs.YtnoebccoaeiakaaGreatDoor

namespace Go.Bar.Wal
open Go.RowKit Go.Bar

def nLoose : Fs → Nat
  | [] => 0
  | (_, f) :: r => (if f.s.length - f.sure = 0 then 0 else 1) + nLoose r
theorem nLoose_le : ∀ (fs : Fs), nLoose fs ≤ fs.length
  | [] => Nat.le_refl _
  | (_, f) :: r => by
    have := nLoose_le r
    rw [nLoose, List.length_cons]
    split <;> omega
theorem nLoose_append : ∀ (a b : Fs), nLoose (a ++ b) = nLoose a + nLoose b
  | [], b => (Nat.zero_add _).symm
  | (_, f) :: r, b => by
    rw [List.cons_append, nLoose, nLoose_append r b, nLoose, Nat.add_assoc]
theorem drop_tail {α : Type} (l : List α) (n : Nat) : l.tail.drop n = l.drop (n + 1) := by
  cases l with
  | nil => simp
  | cons a l => rfl
theorem crashF_append : ∀ (a b : Fs) (cs : List Int), crashF (a ++ b) cs = crashF a cs ++ crashF b (cs.drop (nLoose a))
  | [], b, cs => rfl
  | (n, f) :: r, b, cs => by
    rw [List.cons_append, crashF, crashF, nLoose]
    by_cases h : f.s.length - f.sure = 0
    · rw [if_pos h, if_pos h, if_pos h, crashF_append r b cs, Nat.zero_add]; rfl
    · rw [if_neg h, if_neg h, if_neg h, crashF_append r b cs.tail, drop_tail, Nat.add_comm 1]; rfl
theorem lost_append : ∀ (a b : Fs) (cs : List Int), lost (a ++ b) cs = lost a cs + lost b (cs.drop (nLoose a))
  | [], b, cs => (Nat.zero_add _).symm
  | (n, f) :: r, b, cs => by
    rw [List.cons_append, lost, lost, nLoose]
    by_cases h : f.s.length - f.sure = 0
    · rw [if_pos h, if_pos h, if_pos h, lost_append r b cs, Nat.zero_add]
    · rw [if_neg h, if_neg h, if_neg h, lost_append r b cs.tail, drop_tail, Nat.add_comm 1, Nat.add_assoc]
theorem keep_le (l : Nat) (c : Option Int) : keepOf l c ≤ l := by
  unfold keepOf
  cases c with
  | none => exact Nat.zero_le _
  | some z =>
    simp only
    have h1 := Int.tmod_lt_of_pos (z.tmod (l + 1) + l + 1) (show (0 : Int) < l + 1 by omega)
    omega
theorem put_mid : ∀ (a : Fs) (n : Nm) (f g : Fi) (q : Fs), Srt (a ++ (n, f) :: q) → fput (a ++ (n, f) :: q) n g = a ++ (n, g) :: q
  | [], n, f, g, q, _ => by
    show (if n = n then _ else _) = _
    rw [if_pos rfl]; rfl
  | (m, e) :: a, n, f, g, q, h => by
    obtain ⟨h1, h2⟩ := List.pairwise_cons.1 h
    have hm : m < n := h1 (n, f) (by simp)
    rw [List.cons_append]
    unfold fput
    rw [if_neg (fun e => by rw [e] at hm; exact List.lt_irrefl _ hm), if_neg (fun e => List.lt_irrefl _ (List.lt_trans hm e)), put_mid a n f g q h2]
    rfl
theorem fnd_mid {a : Fs} {n : Nm} {f : Fi} {q : Fs} (h : Srt (a ++ (n, f) :: q)) : fnd (a ++ (n, f) :: q) n = some f := h.fnd (by simp)
def crJ (fs : Fs) (cs : List Int) (j : Nat) : Fs := crashF (fs.take j) cs ++ fs.drop j
theorem crJ_zero (fs : Fs) (cs : List Int) : crJ fs cs 0 = fs := rfl
theorem crJ_all (fs : Fs) (cs : List Int) : crJ fs cs fs.length = crashF fs cs := by unfold crJ; rw [List.take_length, List.drop_length, List.append_nil]
theorem crJ_names (fs : Fs) (cs : List Int) (j : Nat) : (crJ fs cs j).map (·.1) = fs.map (·.1) := by
  unfold crJ
  rw [List.map_append, crash_names, ← List.map_append, List.take_append_drop]
theorem crJ_srt {fs : Fs} (hs : Srt fs) (cs : List Int) (j : Nat) : Srt (crJ fs cs j) := by
  have := List.pairwise_map.2 hs
  rw [← crJ_names fs cs j] at this
  exact List.pairwise_map.1 this
theorem crJ_at {fs : Fs} (cs : List Int) {j : Nat} {n : Nm} {f : Fi} (h : fs[j]? = some (n, f)) : crJ fs cs j = crashF (fs.take j) cs ++ (n, f) :: fs.drop (j + 1) := by
  unfold crJ
  have hj := (List.getElem?_eq_some_iff.1 h)
  obtain ⟨hj, e⟩ := hj
  rw [List.drop_eq_getElem_cons hj, e]
theorem crJ_fnd {fs : Fs} (hs : Srt fs) (cs : List Int) {j : Nat} {n : Nm} {f : Fi} (h : fs[j]? = some (n, f)) : fnd (crJ fs cs j) n = some f := by
  have := crJ_srt hs cs j
  rw [crJ_at cs h] at this ⊢
  exact fnd_mid this
theorem take_snoc {fs : Fs} {j : Nat} {p : Nm × Fi} (h : fs[j]? = some p) : fs.take (j + 1) = fs.take j ++ [p] := by
  rw [List.take_add_one, h]; rfl
theorem crJ_skip {fs : Fs} (cs : List Int) {j : Nat} {n : Nm} {f : Fi} (h : fs[j]? = some (n, f)) (hl : f.s.length - f.sure = 0) : crJ fs cs (j + 1) = crJ fs cs j ∧ lost (fs.take (j + 1)) cs = lost (fs.take j) cs ∧ nLoose (fs.take (j + 1)) = nLoose (fs.take j) := by
  refine ⟨?_, ?_, ?_⟩
  · rw [crJ_at cs h]
    unfold crJ
    rw [take_snoc h, crashF_append, List.append_assoc]
    congr 1
    rw [crashF, if_pos hl]; rfl
  · rw [take_snoc h, lost_append]
    rw [lost, if_pos hl]; rfl
  · rw [take_snoc h, nLoose_append]
    rw [nLoose, if_pos hl]; rfl
theorem crJ_step {fs : Fs} (hs : Srt fs) (cs : List Int) {j : Nat} {n : Nm} {f : Fi} (h : fs[j]? = some (n, f)) (hl : ¬ f.s.length - f.sure = 0) (hk : f.sure ≤ f.s.length) :
    crJ fs cs (j + 1) = fput (crJ fs cs j) n ⟨f.s.take (f.sure + keepOf (f.s.length - f.sure) cs[nLoose (fs.take j)]?), f.sure + keepOf (f.s.length - f.sure) cs[nLoose (fs.take j)]?⟩ ∧
    lost (fs.take (j + 1)) cs = lost (fs.take j) cs + (f.s.length - f.sure - keepOf (f.s.length - f.sure) cs[nLoose (fs.take j)]?) ∧ nLoose (fs.take (j + 1)) = nLoose (fs.take j) + 1 := by
  have hh : (cs.drop (nLoose (fs.take j))).head? = cs[nLoose (fs.take j)]? := by rw [List.head?_drop]
  have hkl := keep_le (f.s.length - f.sure) cs[nLoose (fs.take j)]?
  refine ⟨?_, ?_, ?_⟩
  · have h1 := crJ_srt hs cs j
    rw [crJ_at cs h] at h1 ⊢
    rw [put_mid _ _ _ _ _ h1]
    unfold crJ
    rw [take_snoc h, crashF_append, List.append_assoc]
    congr 1
    rw [crashF, if_neg hl, hh, List.length_take, Nat.min_eq_left (by omega)]; rfl
  · rw [take_snoc h, lost_append]
    rw [lost, if_neg hl, hh]; rfl
  · rw [take_snoc h, nLoose_append]
    rw [nLoose, if_neg hl]; rfl
theorem lost_le (fs : Fs) (hs : ∀ p ∈ fs, p.2.sure ≤ p.2.s.length) (cs : List Int) : lost fs cs ≤ tot fs := by
  have := (crash_tot fs hs cs).1; omega
theorem lost_take_le (fs : Fs) (_hs : ∀ p ∈ fs, p.2.sure ≤ p.2.s.length) (cs : List Int) (j : Nat) : lost (fs.take j) cs ≤ lost fs cs := by
  conv => rhs; rw [← List.take_append_drop j fs]
  rw [lost_append]
  exact Nat.le_add_right _ _
end Go.Bar.Wal
