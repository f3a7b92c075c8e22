/-
  Layer 2: the laws' own functions: awake, Few, Laid, Same; an argument of records.
-/
import Derived.Test.YtmnakjjhphoopaaFrmR
import Derived.Test.YtmnakjjhphoopaaLib4
import Derived.Deep.RegionLaw
namespace Go.Proofs.Ytmnakjjhphoopaa
open Go.RowKit Go.Bar Go.Bar.Leb Go.Bar.Frm

/-- a slice of records -/
def RecsAt (w : World) (v : Value) (rs : List Rc) : Prop := SlAt w 2 v rs.length (rcs rs)
theorem RecsAt.below {w w' : World} {v : Value} {rs : List Rc} (h : RecsAt w v rs) (hb : Below w.heap.size w w') : RecsAt w' v rs := SlAt.below h hb
theorem RecsAt.shape {w : World} {v : Value} {rs : List Rc} (h : RecsAt w v rs) : ∃ A c, v = .slice A rs.length c ∧ rs.length ≤ c ∧ c ≤ maxLen := SlAt.shape h
theorem RecsAt.at_ {w : World} {A : Option Addr} {n c i : Nat} {rs : List Rc} {k : UInt8} {d : List UInt8} (h : RecsAt w (.slice A n c) rs) (hi : rs[i]? = some (k, d)) : ∃ b o, A = some ⟨b, o, none⟩ ∧ b < w.heap.size ∧ w.cell? ⟨b, o + i * 2, none⟩ = some (.int .u8 k.toNat) ∧ w.cell? ⟨b, o + i * 2 + 1, none⟩ = some (.string (bs d)) := by
  have hlt : i < rs.length := (List.getElem?_eq_some_iff.1 hi).1
  obtain ⟨A', c', he, _⟩ := h.shape
  injection he with h1 h2 h3
  subst h1; subst h2; subst h3
  obtain ⟨b, o, rfl, hb, hc⟩ := SlAt.cells h (by omega)
  obtain ⟨g1, g2⟩ := flat2 (fun r : Rc => Value.int .u8 r.1.toNat) (fun r => .string (bs r.2)) rs i _ hi
  exact ⟨b, o, rfl, hb, hc _ _ g1, hc _ _ g2⟩
theorem rcs_length (rs : List Rc) : (rcs rs).length = rs.length * 2 := flat2_length _ _ rs
theorem rcs_take (rs : List Rc) (k : Nat) : (rcs rs).take (k * 2) = rcs (rs.take k) := flat2_take _ _ rs k

set_option maxRecDepth 100000 in
open Go.ChangeShapes Go.WideShapes Go.Deep in
theorem open_recs {H : Type} {enc : TypeId × Value → H} {W : World} {base b0 : Nat} {spare : Nat → Bool} {held : Bool} {r : Reach} {v : Value} {d : DataW H} {p : List MemPlace} (hval : Value.okWide Try.prog W r b0 38 v)
    (h : DataW.Trod enc Try.prog W base spare held 38 v d p) : ∃ rs, RecsAt W v rs ∧ ∀ r ∈ rs, r.2.length ≤ maxLen := by
  obtain ⟨A, n, c, rfl, hnc, hcm, hx⟩ := open_slice_fields Try.underlying38 Try.underlying31 (by kernel_rfl) (by kernel_rfl) (Nat.zero_lt_succ 1 : 0 < 2) hval h
  rcases Nat.eq_zero_or_pos n with h0 | h0
  · subst h0
    exact ⟨[], ⟨rfl, A, c, rfl, hnc, hcm, fun h => absurd h (by simp)⟩, by simp⟩
  · obtain ⟨b, o, rfl, hb, hf⟩ := hx h0
    obtain ⟨rs, hl, ht⟩ := list_of (fun i (r : Rc) => W.cell? ⟨b, o + i * 2, none⟩ = some (.int .u8 r.1.toNat) ∧ W.cell? ⟨b, o + i * 2 + 1, none⟩ = some (.string (bs r.2)) ∧ r.2.length ≤ maxLen) n (fun i hi => by
      obtain ⟨x0, y0, k0, c0, t0⟩ := hf i hi 0 _ rfl
      obtain ⟨x1, y1, k1, c1, t1⟩ := hf i hi 1 _ rfl
      obtain ⟨n0, e0, _, w0⟩ := DataW.trod_int Try.underlying5 t0
      obtain ⟨s1, e1, e2, ws⟩ := DataW.trod_string Try.underlying9 t1
      replace e0 : x0 = _ := (List.cons.inj e0).1
      replace e1 : x1 = _ := (List.cons.inj e1).1
      have b0 := bounds_u8 w0
      subst e0; subst e1
      refine ⟨(UInt8.ofNat n0.toNat, s1.data.toList), ?_, ?_, ?_⟩
      · rw [show ((UInt8.ofNat n0.toNat).toNat : Int) = n0 by simp; omega]; exact c0
      · rw [Nat.add_assoc]; exact c1
      · exact ws)
    refine ⟨rs, ⟨rcs_length rs, some ⟨b, o, none⟩, c, by rw [hl], by rw [hl]; exact hnc, hcm, fun _ => ⟨b, o, rfl, hb, fun j hj => ?_⟩⟩, fun r hr => by obtain ⟨i, hi⟩ := List.mem_iff_getElem?.1 hr; exact (ht i r hi).2.2⟩
    have hlt : j / 2 < rs.length := by omega
    have hg := List.getElem?_eq_getElem hlt
    obtain ⟨g0, g1, _⟩ := ht _ _ hg
    obtain ⟨f0, f1⟩ := flat2 (fun r : Rc => Value.int .u8 r.1.toNat) (fun r => .string (bs r.2)) rs (j / 2) _ hg
    rcases Nat.mod_two_eq_zero_or_one j with hm | hm
    · have e : j / 2 * 2 = j := by omega
      rw [e] at g0 f0
      exact g0.trans f0.symm
    · have e : j / 2 * 2 + 1 = j := by omega
      rw [Nat.add_assoc, e] at g1
      rw [e] at f1
      exact g1.trans f1.symm

theorem fixA : sum [49, 50, 51, 52, 53, 54, 55, 56, 57] = 3808858755 := by decide +kernel
theorem fixB : rec (1, [97]) = 1 :: 1 :: (sum4 (rsum (1, [97])) ++ [97]) := by
  simp [rec, u_lt]
theorem fixC : next (rec (1, [97])) = ((1, [97]), [], 0) := by
  have := next_rec (1, [97]) [] (by decide)
  rwa [List.append_nil] at this

attribute [local go_sem ↓] Go.wp_at_zero Go.wp_at_succ

set_option maxHeartbeats 1000000 in
set_option maxRecDepth 10000 in
theorem awake2_any (w : World) : Calls Try.prog 19 #[] w (RetBelow w (.bool true)) := by
  have hfix := Lib.hid fixC
  go_enter Try.func19, Try.ntmps19
  go_wp2_with fail
  refine (append_any (.slice none 0 0) [] 1 (bs [97]) _ (by decide) (BBuf.nil _ _)).mono ?_
  rintro e w1 ⟨v, rfl, h1⟩
  have hbl := h1.nil_below
  have hb := h1.buf
  rw [List.nil_append, bs_data] at hb
  have hc1 := hb.string bytes_ty 9 Try.underlying9
  obtain ⟨r, hr⟩ : ∃ r, r = rec (1, [97]) := ⟨_, rfl⟩
  have hr1 : r[0]? = some 1 ∧ r[6]? = some 97 := by rw [hr, fixB]; exact ⟨rfl, rfl⟩
  have hr7 : r.length = 7 := by rw [hr, fixB]; rfl
  rw [← hr] at hb hc1 hfix
  obtain ⟨A, c, rfl, hle⟩ := Buf.shape hb
  obtain ⟨b, o, rfl, hlt, hcell⟩ := Buf.cell hb (by omega)
  have k0 := hcell 0 (by omega)
  have k6 := hcell 6 (by omega)
  rw [bcs, List.getElem?_map, hr1.1] at k0
  rw [bcs, List.getElem?_map, hr1.2] at k6
  simp only [Option.map_some] at k0 k6
  have k0 : w1.cell? ⟨b, o + 0, none⟩ = some (.int .u8 1) := k0
  have k6 : w1.cell? ⟨b, o + 6, none⟩ = some (.int .u8 97) := k6
  rw [Nat.add_zero] at k0
  have hl7 : r.length ≤ 7 := by omega
  have hl8 : 7 ≤ r.length := by omega
  have HF := Lib.hid fixA
  clear h1 hcell hr hr1
  have H7 := Lib.hid hr7
  clear hr7
  go_wp2_with fail
  refine (next_of hfix.out _ (by omega)).mono ?_
  rintro e w2 ⟨rfl, hb2⟩
  have k0 := (hb2.cell (p := ⟨b, o, none⟩) hlt).trans k0
  have k6 := (hb2.cell (p := ⟨b, o + 6, none⟩) hlt).trans k6
  have hr7 := H7.out
  have hfa : ∀ w, Calls Try.prog 21 #[.string (bs [49, 50, 51, 52, 53, 54, 55, 56, 57])] w fun e w' => e = .returned (.int .u32 3808858755) ∧ w = w' := fun w => by
    have := sum_any (bs [49, 50, 51, 52, 53, 54, 55, 56, 57]) w (by decide)
    rw [bs_data, HF.out] at this
    exact this
  have HA := Lib.hid hfa
  have hlt2 := Nat.lt_of_lt_of_le hlt hb2.size
  clear hfa
  go_wp2_with fail
  refine (HA.out _).mono ?_
  rintro e w3 ⟨rfl, rfl⟩
  go_wp2_with fail
  go_ret
  exact ⟨rfl, (below_trans hbl hb2).alloc (below_trans hbl hb2).size _⟩

def few (rs : List Rc) : List Rc := (rs.take 6).map fun r => (r.1, r.2.take 60)
def cut60 (rs : List Rc) : List Rc := rs.map fun r => (r.1, r.2.take 60)
theorem cut60_next {rs : List Rc} {k : Nat} {r : Rc} (h : rs[k]? = some r) : cut60 (rs.take (k + 1)) = cut60 (rs.take k) ++ [(r.1, r.2.take 60)] := by
  unfold cut60
  rw [List.take_add_one, h, List.map_append]
  rfl
theorem few_len (rs : List Rc) : (few rs).length ≤ 6 := by simp [few]; omega
theorem few_short (rs : List Rc) : ∀ r ∈ few rs, r.2.length ≤ 60 := by
  intro r hr
  simp only [few, List.mem_map] at hr
  obtain ⟨r', _, rfl⟩ := hr
  exact List.length_take_le _ _

/-- a new slice of records -/
def RetRecs (w : World) (rs : List Rc) (en : Ending) (w' : World) : Prop :=
  ∃ v, en = .returned v ∧ Buf w' 31 2 v rs.length (rcs rs) ∧ Below w.heap.size w w'

set_option maxHeartbeats 1000000 in
set_option maxRecDepth 10000 in
theorem few_any (v : Value) (rs : List Rc) (w : World) (h : RecsAt w v rs) (hsz : ∀ r ∈ rs, r.2.length ≤ maxLen) : Calls Try.prog 29 #[v] w (RetRecs w (few rs)) := by
  obtain ⟨A, c, rfl, hlc, hcm⟩ := h.shape
  unfold maxLen at hcm
  go_enter Try.func29, Try.ntmps29
  go_wp2_with fail
  go_loopw [3, 4] (fun s i wr => ∃ k : Nat, k ≤ rs.length ∧ k ≤ 6 ∧ i = .int .i64 k ∧ App (w.alloc (.cells #[] 31)) (.slice (some ⟨w.heap.size, 0, none⟩) 0 0) 31 2 0 [] wr s (cut60 (rs.take k)).length (rcs (cut60 (rs.take k)))) (fun _ i _ => 6 - (intOf i).toNat)
  case atStart => exact ⟨0, Nat.zero_le _, by omega, rfl, App.lit0 w _ _⟩
  case round =>
    obtain ⟨k, hk, hk6, rfl, happ⟩ := hrel
    have hbl := happ.below_lit0
    by_cases hgo : k < rs.length ∧ k < 6
    · obtain ⟨hk1, hk2⟩ := hgo
      obtain ⟨⟨kd, d⟩, hki⟩ : ∃ r, rs[k]? = some r := ⟨_, List.getElem?_eq_getElem hk1⟩
      have hn := cut60_next hki
      have hcl : (cut60 (rs.take k)).length ≤ 6 := by simp [cut60]; omega
      obtain ⟨b, o, rfl, hlt, c0, c1⟩ := (h.below hbl).at_ hki
      have hd := hsz _ (List.mem_of_getElem? hki)
      simp only at hd
      have HN := Lib.hid hn
      have hci : (0 : Int) ≤ (k : Int) := by omega
      have hci2 : (k : Int) < rs.length := by omega
      clear hn hki
      go_wp2_with fail
      go_region_law (first
        | (((rw [if_pos (by rfl)]); go_simp; go_at_call 18; refine (cut_any (bs d) 60 _ (by omega) (by omega) (by rw [bs_size]; exact hd)).mono ?_; rintro e w' ⟨rfl, rfl⟩; dsimp only))
        | ((refine step_append_app (by rfl) (.tmp 16) (.tmp 29) _ (by rfl) rec_ty (by rfl) ((happ.alloc _).drew) (by rfl) (Src.drew_ (Buf.lit wr 31 2 1 [.int .u8 kd.toNat, .string (bs (d.take 60))] rfl (by decide)) rec_ty.slice (by simp [Value.oneCell'])) (by simp only [maxLen]; omega) (by omega) ?_; intro v2 w2 happ2)))
      all_goals
        go_wp2_with fail
        go_roundw
        case rel => exact ⟨k + 1, by omega, by omega, by go_num, by rw [HN.out, List.length_append, ← rcs_snoc] at *; exact happ2⟩
        case measure => simp [intOf]; omega
    · have hend : rs.length ≤ k ∨ k < rs.length ∧ 6 ≤ k := by omega
      have he : cut60 (rs.take k) = few rs := by
        unfold cut60 few
        rcases hend with h1 | h1
        · rw [List.take_of_length_le h1, List.take_of_length_le (by omega)]
        · rw [show k = 6 by omega]
      rw [he] at happ
      have hbuf := happ.buf
      rw [Nat.zero_add, List.nil_append] at hbuf
      clear hgo he happ
      rcases hend with h1 | ⟨h1, h2⟩
      all_goals
        go_wp2_with fail
        go_ret
        exact ⟨_, rfl, hbuf, hbl⟩

theorem int_ty : ElemTy Try.prog 48 3 (.int .i64 0) 1 8 :=
  ⟨Try.underlying48, info_parts (show (Try.prog.info? 3).map (fun i => (i.zero, i.size, i.bytes)) = some (some (.int .i64 0), 1, 8) by kernel_rfl), rfl⟩

/-- where records end -/
def ends (rs : List Rc) : List Nat := (List.range rs.length).map fun i => (laid (rs.take (i + 1))).length
theorem ends_length (rs : List Rc) : (ends rs).length = rs.length := by simp [ends]
theorem ends_next {rs : List Rc} {k : Nat} (h : k < rs.length) : ends (rs.take (k + 1)) = ends (rs.take k) ++ [(laid (rs.take (k + 1))).length] := by
  unfold ends
  rw [List.length_take, Nat.min_eq_left (by omega), List.length_take, Nat.min_eq_left (by omega), List.range_succ, List.map_append]
  simp only [List.map_cons, List.map_nil, List.take_take, Nat.min_self]
  congr 1
  refine List.map_congr_left fun i hi => ?_
  rw [List.mem_range] at hi
  rw [Nat.min_eq_left (by omega), Nat.min_eq_left (by omega)]
def ics (l : List Nat) : List Value := l.map fun n : Nat => .int .i64 (n : Int)
theorem ics_append (l m : List Nat) : ics (l ++ m) = ics l ++ ics m := List.map_append
theorem laid_next {rs : List Rc} {k : Nat} {r : Rc} (h : rs[k]? = some r) : laid (rs.take (k + 1)) = laid (rs.take k) ++ rec r := by
  rw [List.take_add_one, h]
  exact laid_snoc _ _
theorem rec_short (r : Rc) (h : r.2.length ≤ 60) : (rec r).length ≤ 75 := by
  rw [rec_len]
  have := u_len r.2.length (by omega)
  omega
theorem laid_short : ∀ (rs : List Rc), (∀ r ∈ rs, r.2.length ≤ 60) → (laid rs).length ≤ 75 * rs.length
  | [], _ => by simp [laid]
  | r :: rs, h => by
    have h1 := rec_short r (h r (by simp))
    have h2 := laid_short rs (fun r hr => h r (by simp [hr]))
    rw [laid_cons, List.length_append, List.length_cons]
    omega

/-- what Laid returns -/
def RetLaid (w : World) (rs : List Rc) (en : Ending) (w' : World) : Prop :=
  ∃ v, en = .returned (.tuple #[.string (bs (laid rs)), v]) ∧ NBuf w w' 3 1 v (ends rs).length (ics (ends rs))

set_option maxHeartbeats 1000000 in
set_option maxRecDepth 10000 in
theorem laid_any (v : Value) (rs : List Rc) (w : World) (h : RecsAt w v rs) (hn : rs.length ≤ 6) (hs : ∀ r ∈ rs, r.2.length ≤ 60) : Calls Try.prog 30 #[v] w (RetLaid w rs) := by
  obtain ⟨A, c, rfl, hlc, hcm⟩ := h.shape
  unfold maxLen at hcm
  go_enter Try.func30, Try.ntmps30
  go_wp2_with fail
  go_loopw [4, 5, 11] (fun b s i wr => ∃ k : Nat, k ≤ rs.length ∧ i = .int .i64 k ∧ NBuf w wr 5 1 b (laid (rs.take k)).length (bcs (laid (rs.take k))) ∧ NBuf w wr 3 1 s (ends (rs.take k)).length (ics (ends (rs.take k)))) (fun _ _ i _ => rs.length - (intOf i).toNat)
  case atStart => 
    have e1 : ends (rs.take 0) = [] := by simp [ends]
    have e2 : laid (rs.take 0) = [] := by simp [laid]
    exact ⟨0, Nat.zero_le _, rfl, by rw [e2]; exact (NBuf.nil (Below.refl _ _) _ _).alloc _, by rw [e1]; exact NBuf.lit0 (Below.refl _ _) _ _⟩
  case round =>
    obtain ⟨k, hk, rfl, hb, he⟩ := hrel
    by_cases hgo : k < rs.length
    · obtain ⟨⟨kd, d⟩, hki⟩ : ∃ r, rs[k]? = some r := ⟨_, List.getElem?_eq_getElem hgo⟩
      have hd := hs _ (List.mem_of_getElem? hki)
      simp only at hd
      have hl := laid_short (rs.take k) (fun r hr => hs r (List.mem_of_mem_take hr))
      have hl2 := laid_short (rs.take (k + 1)) (fun r hr => hs r (List.mem_of_mem_take hr))
      rw [List.length_take] at hl hl2
      obtain ⟨b, o, rfl, hlt, c0, c1⟩ := (h.below hb.below).at_ hki
      have H1 := Lib.hid (laid_next hki)
      have H2 := Lib.hid (ends_next hgo)
      have hen : (ends (rs.take k)).length ≤ 6 := by rw [ends_length, List.length_take]; omega
      clear hki
      go_wp2_with fail
      refine (append_any _ (laid (rs.take k)) kd (bs d) _ (by rw [bs_size]; omega) (hb.alloc _).buf).mono ?_
      rintro e w2 ⟨v2, rfl, hap⟩
      have hb2 := (hb.alloc _).step hap.buf (App.ap hap) (App.grew hap)
      have he2 := (he.alloc _).keep (hb.alloc _) (App.ap hap) (by decide)
      rw [bs_data] at hb2
      have hsh := hb2.buf.shape
      rw [← H1.out] at hb2 hsh
      obtain ⟨A2, c2, rfl, hc2⟩ := hsh
      clear hap hb he
      go_wp2_with (at_builtin; refine wpList_append_nlit rfl (.tmp 18) (.tmp 21) 48 rfl int_ty rfl he2 rfl (by simp) rfl (by simp [Value.oneCell']) (by simp only [maxLen]; omega) (by omega) ?_; intro v3 w3 he3 hap3)
      have hb3 := (hb2.alloc _).keep (he2.alloc _) hap3 (by decide)
      go_roundw
      case rel => exact ⟨k + 1, by omega, by go_num, hb3, by rw [H2.out, List.length_append, ics_append]; exact he3⟩
      case measure => simp [intOf]; omega
    · rw [List.take_of_length_le (by omega)] at hb he
      have hcv := BBuf.string (l := laid rs) bytes_ty hb.buf 9 Try.underlying9
      go_wp2_with fail
      go_ret2
      exact ⟨_, rfl, he⟩

set_option maxHeartbeats 1000000 in
set_option maxRecDepth 10000 in
theorem same_any (v u : Value) (rs : List Rc) (w : World) (h : RecsAt w v rs) (h' : RecsAt w u rs) : Calls Try.prog 31 #[v, u] w (Quiet w (.int .i64 0)) := by
  obtain ⟨A, c, rfl, hlc, hcm⟩ := h.shape
  obtain ⟨A2, c2, rfl, hlc2, hcm2⟩ := h'.shape
  unfold maxLen at hcm hcm2
  go_enter Try.func31, Try.ntmps31
  go_wp2_with fail
  go_loopw [13] (fun i wr => ∃ k n : Nat, k ≤ rs.length ∧ i = .int .i64 k ∧ wr = w.drewN n) (fun i _ => rs.length - (intOf i).toNat)
  case atStart => exact ⟨0, 0, Nat.zero_le _, rfl, rfl⟩
  case round =>
    obtain ⟨k, n, hk, rfl, rfl⟩ := hrel
    by_cases hgo : k < rs.length
    · obtain ⟨⟨kd, d⟩, hki⟩ : ∃ r, rs[k]? = some r := ⟨_, List.getElem?_eq_getElem hgo⟩
      obtain ⟨b, o, rfl, hlt, c0, c1⟩ := h.at_ hki
      obtain ⟨b2, o2, rfl, hlt2, c2, c3⟩ := h'.at_ hki
      have hci : (0 : Int) ≤ (k : Int) := by omega
      have hci2 : (k : Int) < rs.length := by omega
      clear hki
      go_wp2_with fail
      go_quiet (fail)
      go_wp2_with fail
      go_roundw
      case rel => exact ⟨k + 1, n + nq, by omega, by go_num, rfl⟩
      case measure => simp [intOf]; omega
    · go_wp2_with fail
      go_ret
      exact ⟨rfl, n, rfl⟩

theorem law_own : ownKnob Try.prog.godebug = none := by kernel_rfl
theorem law_laid : laidOutB Try.prog = true := by kernel_rfl

theorem all_of {l m : List UInt8} {rs : List Rc} {n : Int} (h1 : recs l = rs) (h2 : left l = m) (hn : (l.length : Int) - (m.length : Int) = n) (w : World) (hs : l.length ≤ 1000000000000) :
    Calls Try.prog 24 #[.string (bs l)] w fun en w' => ∃ v, en = .returned (.tuple #[v, .int .i64 n]) ∧ RecsAt w' v rs ∧ Below w.heap.size w w' := by
  subst h1; subst h2; subst hn
  exact (all_any l w hs).mono fun en w' ⟨v, he, hb, hl⟩ => ⟨v, he, SlAt.of_buf hb, hl⟩

end Go.Proofs.Ytmnakjjhphoopaa
