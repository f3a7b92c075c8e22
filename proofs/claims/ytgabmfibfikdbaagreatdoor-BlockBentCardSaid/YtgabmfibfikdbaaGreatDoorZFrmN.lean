/-
  Layer 2: the walks of frame.Next and frame.All.
-/
import Derived.Test.YtgabmfibfikdbaaGreatDoorZIdtA
import Derived.Handy
import Derived.Test.YtgabmfibfikdbaaGreatDoorZFrmM
import Derived.Test.YtgabmfibfikdbaaGreatDoorZBokN
import Derived.Test.YtgabmfibfikdbaaGreatDoorZLib4

namespace Go.Proofs.YtgabmfibfikdbaaGreatDoor
open Go.RowKit Go.Bar Go.Bar.Leb Go.Bar.Frm

/-- what Next returns -/
def recV (r : Rc) : Value := .agg #[.int .u8 r.1.toNat, .string (bs r.2)]
def nextV (x : Rc × List UInt8 × Nat) : Value := .tuple #[recV x.1, .string (bs x.2.1), .int .i64 x.2.2]

theorem or_shift (x b i : Nat) (h : x < 2 ^ i) : x ||| b * 2 ^ i = x + b * 2 ^ i := by
  have := Nat.two_pow_add_eq_or_of_lt h b
  rw [Nat.or_comm, Nat.mul_comm b, ← this, Nat.add_comm]
theorem num4_bits (a b c f : UInt8) (r : List UInt8) : bits .or .u32 (bits .or .u32 (bits .or .u32 ((a.toNat : Int) % 4294967296) ((b.toNat : Int) % 4294967296 * 256 % 4294967296)) ((c.toNat : Int) % 4294967296 * 65536 % 4294967296)) ((f.toNat : Int) % 4294967296 * 16777216 % 4294967296) = ((num4 (a :: b :: c :: f :: r) : Nat) : Int) := by
  have ha := UInt8.toNat_lt a
  have hb := UInt8.toNat_lt b
  have hc := UInt8.toNat_lt c
  have hf := UInt8.toNat_lt f
  simp only [num4, List.getD_cons_zero, List.getD_cons_succ]
  generalize a.toNat = x at *
  generalize b.toNat = y at *
  generalize c.toNat = z at *
  generalize f.toNat = v at *
  rw [show (x : Int) % 4294967296 = (x : Nat) by omega, show (y : Int) % 4294967296 * 256 % 4294967296 = ((y * 2 ^ 8 : Nat) : Int) by omega, show (z : Int) % 4294967296 * 65536 % 4294967296 = ((z * 2 ^ 16 : Nat) : Int) by omega, show (v : Int) % 4294967296 * 16777216 % 4294967296 = ((v * 2 ^ 24 : Nat) : Int) by omega]
  rw [u32_or_nat _ _ (by omega) (by omega), or_shift _ _ _ (by omega), u32_or_nat _ _ (by omega) (by omega), or_shift _ _ _ (by omega), u32_or_nat _ _ (by omega) (by omega), or_shift _ _ _ (by omega)]

set_option maxHeartbeats 1000000 in
set_option maxRecDepth 10000 in
theorem next_any (l : List UInt8) (w : World) (hs : l.length ≤ 9223372036854775807) :
    Calls Tryz.prog 35 #[.string (bs l)] w (RetBelow w (nextV (next l))) := by
  match l with
  | [] =>
    go_enter Tryz.func35, Tryz.ntmps35
    go_wp2_with fail
    refine (takeByte_none (bs []) _ rfl).mono ?_
    rintro e w' ⟨rfl, n, rfl⟩
    go_wp2_with fail
    go_returns
    exact ⟨rfl, ((below_drewN ((Below.refl _ _).alloc (Nat.le_refl _) _) _).setCell (by simp) _).setCell (by simp) _⟩
  | k :: l =>
    rw [List.length_cons] at hs
    obtain ⟨n, r, er, ht⟩ : ∃ n r er, takeMost l 1048576 = (n, r, er) := ⟨_, _, _, rfl⟩
    have hp := takeMost_prop l 1048576 (by omega)
    have hn1 : (takeMost l 1048576).2.2 = 0 → (takeMost l 1048576).1 ≤ 1048576 := takeMost_le l 1048576
    rw [next, ht]
    rw [ht] at hp hn1
    simp only at hp hn1 ⊢
    obtain ⟨hv, hrl, he⟩ := hp
    have HT := Lib.hid (show takeMost (bs l).data.toList 1048576 = (n, r, er) from ht)
    clear ht
    by_cases h1 : er ≠ 0
    · rw [if_pos h1]
      have hb : ((er : Int) != 0) = true := by rw [bne_iff_ne]; omega
      clear h1 he hn1
      go_enter Tryz.func35, Tryz.ntmps35
      go_wp2_with fail
      refine (takeByte_some (bs (k :: l)) _ k l (by rw [bs_size]; unfold maxLen; simp; omega) rfl).mono ?_
      rintro e w' ⟨rfl, n1, rfl⟩
      go_wp2_with fail
      refine (takeMost_of (bs l) 1048576 HT.out _ (by rw [bs_size]; unfold maxLen; omega) (by omega) (by omega)).mono ?_
      rintro e w' ⟨rfl, n2, rfl⟩
      go_wp2_with fail
      go_returns
      exact ⟨rfl, ((below_drewN ((Below.refl _ _).alloc (Nat.le_refl _) _) _).setCell (by simp) _).setCell (by simp) _⟩
    · rw [if_neg h1]
      obtain rfl : er = 0 := by omega
      have hn2 := hn1 rfl
      clear h1 he hn1
      by_cases h2 : r.length < 4 + n
      · rw [if_pos h2]
        go_enter Tryz.func35, Tryz.ntmps35
        go_wp2_with fail
        refine (takeByte_some (bs (k :: l)) _ k l (by rw [bs_size]; unfold maxLen; simp; omega) rfl).mono ?_
        rintro e w' ⟨rfl, n1, rfl⟩
        go_wp2_with fail
        refine (takeMost_of (bs l) 1048576 HT.out _ (by rw [bs_size]; unfold maxLen; omega) (by omega) (by omega)).mono ?_
        rintro e w' ⟨rfl, n2, rfl⟩
        go_wp2_with fail
        go_returns
        exact ⟨rfl, ((below_drewN ((Below.refl _ _).alloc (Nat.le_refl _) _) _).setCell (by simp) _).setCell (by simp) _⟩
      · rw [if_neg h2]
        obtain ⟨d, hd⟩ : ∃ d, d = (r.drop 4).take n := ⟨_, rfl⟩
        rw [← hd]
        have h5 : 4 ≤ r.length := by omega
        obtain ⟨a, b, c, f, r', rfl⟩ : ∃ a b c f r', r = a :: b :: c :: f :: r' := by
          match r, h5 with
          | a :: b :: c :: f :: r', _ => exact ⟨a, b, c, f, r', rfl⟩
        have h4 : n ≤ r'.length := by simp at h2; omega
        have hsz : (bs (a :: b :: c :: f :: r')).size = r'.length + 4 := rfl
        have hr4 : r'.length + 4 ≤ l.length := by simpa using hrl
        have hi0 := index_bs Tryz.underlying9 .i64 (a :: b :: c :: f :: r') 0 0 a rfl rfl
        have hi1 := index_bs Tryz.underlying9 .i64 (a :: b :: c :: f :: r') 1 1 b rfl rfl
        have hi2 := index_bs Tryz.underlying9 .i64 (a :: b :: c :: f :: r') 2 2 c rfl rfl
        have hi3 := index_bs Tryz.underlying9 .i64 (a :: b :: c :: f :: r') 3 3 f rfl rfl
        have HN := Lib.hid (num4_bits a b c f r')
        have hdl : d.length ≤ 1048576 := by rw [hd]; exact Nat.le_trans (List.length_take_le _ _) hn2
        have hx1 : (bs (k :: l)).extract 0 1 = bs [k] := bs_extract _ _ _
        have hx2 : (bs (a :: b :: c :: f :: r')).extract 4 (4 + n) = bs d := by rw [bs_extract, hd, Nat.add_sub_cancel_left]
        have hS : ∀ w, Calls Tryz.prog 70 #[.string ((bs (k :: l)).extract 0 1)] w fun e w' => e = .returned (.int .u32 (sum [k])) ∧ w = w' := fun w => by
          rw [hx1]; exact sum_any (bs [k]) w (by decide : 1 ≤ maxLen)
        have hM : ∀ w, Calls Tryz.prog 74 #[.int .u32 (sum [k]), .string ((bs (a :: b :: c :: f :: r')).extract 4 (4 + n))] w fun e w' => e = .returned (.int .u32 (rsum (k, d))) ∧ w = w' := fun w => by
          rw [hx2]; exact more_of (bs d) (sum [k]) w (by rw [bs_size]; unfold maxLen; omega) (sum_lt _) (more_sum [k] d)
        have HS := Lib.hid hS
        have HM := Lib.hid hM
        have HX := Lib.hid hx2
        clear h2 hd h5 hrl hS hM hx1 hx2
        have step : ∀ (bb : Bool) (v : Value), (((rsum (k, d) : Nat) : Int) != bits .or .u32 (bits .or .u32 (bits .or .u32 ((a.toNat : Int) % 4294967296) ((b.toNat : Int) % 4294967296 * 256 % 4294967296)) ((c.toNat : Int) % 4294967296 * 65536 % 4294967296)) ((f.toNat : Int) % 4294967296 * 16777216 % 4294967296)) = bb →
            Hid ((bb = true → v = nextV (z, [], 4)) ∧ (bb = false → v = nextV ((k, d), (a :: b :: c :: f :: r').drop (4 + n), 0))) → Calls Tryz.prog 35 #[.string (bs (k :: l))] w (RetBelow w v) := by
          intro bb v hbb hv
          go_enter Tryz.func35, Tryz.ntmps35
          go_wp2_with fail
          refine (takeByte_some (bs (k :: l)) _ k l (by rw [bs_size]; unfold maxLen; simp; omega) rfl).mono ?_
          rintro e w' ⟨rfl, n1, rfl⟩
          go_wp2_with fail
          refine (takeMost_of (bs l) 1048576 HT.out _ (by rw [bs_size]; unfold maxLen; omega) (by omega) (by omega)).mono ?_
          rintro e w' ⟨rfl, n2, rfl⟩
          go_wp2_with fail
          go_quiet (fail)
          go_wp2_with fail
          refine (HS.out _).mono ?_
          rintro e w' ⟨rfl, rfl⟩
          go_wp2_with fail
          refine (HM.out _).mono ?_
          rintro e w' ⟨rfl, rfl⟩
          clear hi0 hi1 hi2 hi3
          have hw4 : IntKind.i64.wrap (4 + (n : Int)) = 4 + (n : Int) := IntWalk.i64_in _ ⟨by omega, by omega⟩
          have hp4 : (0 : Int) ≤ 4 + (n : Int) := by omega
          rcases bb with _ | _
          · obtain rfl : v = nextV ((k, d), (a :: b :: c :: f :: r').drop (4 + n), 0) := by simpa using hv.out.2
            clear hv
            go_wp2_with fail
            go_region
            all_goals go_wp2_with fail
            all_goals go_returns
            all_goals
              have HY : (bs (a :: b :: c :: f :: r')).extract (4 + n) (r'.length + 4) = bs ((a :: b :: c :: f :: r').drop (4 + n)) := by
                rw [bs_extract, List.take_of_length_le (by rw [List.length_drop]; simp)]
              exact ⟨by rw [HX.out, HY]; rfl, ((below_drewN ((Below.refl _ _).alloc (Nat.le_refl _) _) _).setCell (by simp) _).setCell (by simp) _⟩
          · obtain rfl : v = nextV (z, [], 4) := by simpa using hv.out.1
            clear hv
            go_wp2_with fail
            go_returns
            exact ⟨rfl, ((below_drewN ((Below.refl _ _).alloc (Nat.le_refl _) _) _).setCell (by simp) _).setCell (by simp) _⟩
        by_cases h3 : rsum (k, d) = num4 (a :: b :: c :: f :: r')
        · rw [if_neg (fun h => h h3)]
          refine step false _ ?_ ⟨fun h => (by cases h), fun _ => rfl⟩
          rw [HN.out, h3]
          simp
        · rw [if_pos h3]
          refine step true _ ?_ ⟨fun _ => rfl, fun h => (by cases h)⟩
          rw [HN.out, bne_iff_ne]
          omega

theorem next_of {l r d : List UInt8} {k : UInt8} {er : Nat} (h : next l = ((k, d), r, er)) (w : World) (hs : l.length ≤ 9223372036854775807) :
    Calls Tryz.prog 35 #[.string (bs l)] w (RetBelow w (.tuple #[.agg #[.int .u8 k.toNat, .string (bs d)], .string (bs r), .int .i64 er])) := by
  have := next_any l w hs
  rw [h] at this
  exact this

/-- records as cells -/
def frcs (rs : List Rc) : List Value := rs.flatMap fun r => [.int .u8 r.1.toNat, .string (bs r.2)]
theorem frcs_snoc (rs : List Rc) (k : UInt8) (d : List UInt8) : frcs (rs ++ [(k, d)]) = frcs rs ++ [.int .u8 k.toNat, .string (bs d)] := by simp [frcs]
theorem rec_ty : ElemTy Tryz.prog 118 100 (.agg #[.int .u8 0, .string ByteArray.empty]) 2 24 :=
  ⟨Tryz.underlying118, info_parts (show (Tryz.prog.info? 100).map (fun i => (i.zero, i.size, i.bytes)) = some (some (.agg #[.int .u8 0, .string ByteArray.empty]), 2, 24) by kernel_rfl), rfl⟩

/-- how long a text is -/
def lenOf : Value → Nat
  | .string s => s.size
  | _ => 0

/-- records and how many bytes they have -/
def RetAll (w : World) (e : TypeId) (rs : List Rc) (n : Int) (en : Ending) (w' : World) : Prop :=
  ∃ v, en = .returned (.tuple #[v, .int .i64 n]) ∧ Buf w' e 2 v rs.length (frcs rs) ∧ Below w.heap.size w w'

set_option maxHeartbeats 1000000 in
set_option maxRecDepth 10000 in
theorem all_any (l : List UInt8) (w : World) (hs : l.length ≤ 1000000000000) :
    Calls Tryz.prog 43 #[.string (bs l)] w (RetAll w 100 (recs l) ((l.length : Int) - ((left l).length : Nat))) := by
  have hll := left_le l
  go_enter Tryz.func43, Tryz.ntmps43
  go_wp2_with fail
  go_loopw [4, 5] (fun v s wr => ∃ (rs : List Rc) (m : List UInt8), s = .string (bs m) ∧ rs.length * 6 + m.length ≤ l.length ∧ App w (.slice none 0 0) 100 2 0 [] wr v rs.length (frcs rs) ∧ Hid (rs ++ recs m = recs l ∧ left m = left l))
    (fun _ s _ => lenOf s)
  case atStart => exact ⟨[], l, rfl, by simp, App.start' (Buf.nil w _ _), rfl, rfl⟩
  case round =>
    obtain ⟨rs, m, rfl, hlen, happ, hr⟩ := hrel
    obtain ⟨k, d, r, er, hn⟩ : ∃ k d r er, next m = ((k, d), r, er) := ⟨_, _, _, _, rfl⟩
    have HN := Lib.hid hn
    by_cases he : er = 0
    · subst he
      have h6 := next_left m (by rw [hn])
      have hg := recs_go (l := m) (by rw [hn])
      rw [hn] at h6 hg
      simp only at h6 hg
      have HG := Lib.hid hg
      clear hg hn
      go_wp2_with fail
      refine (next_of HN.out _ (by omega)).mono ?_
      rintro e w1 ⟨rfl, hb1⟩
      have happ1 := happ.below hb1
      clear happ hb1
      go_wp2_with (at_builtin; refine wpList_append_lit rfl (.tmp 24) (.tmp 26) 118 rfl rec_ty rfl (happ1.alloc _) rfl (by simp) rfl (by simp [Value.oneCell']) (by simp only [maxLen]; omega) (by omega) ?_; intro v2 w2 happ2)
      go_roundw
      case rel => exact ⟨rs ++ [(k, d)], r, rfl, by simp; omega, by rw [frcs_snoc, List.length_append]; exact happ2, by rw [← hr.out.1, HG.out.1]; simp, by rw [← hr.out.2, HG.out.2]⟩
      case measure => simp only [lenOf, bs_size]; omega
    · have hg := recs_stop (l := m) (by rw [hn]; exact he)
      have hb : ((er : Int) != 0) = true := by rw [bne_iff_ne]; omega
      have HG := Lib.hid hg
      clear hg hn he
      go_wp2_with fail
      refine (next_of HN.out _ (by omega)).mono ?_
      rintro e w1 ⟨rfl, hb1⟩
      have happ1 := happ.below hb1
      clear happ hb1
      go_wp2_with fail
      go_ret2
      have e1 : rs = recs l := by rw [← hr.out.1, HG.out.1, List.append_nil]
      have e2 : m = left l := by rw [← hr.out.2, HG.out.2]
      have hbuf := (happ1.alloc (.cells #[.int .u8 k.toNat, .string (bs d)] 100)).buf
      rw [Nat.zero_add, List.nil_append] at hbuf
      subst e1
      exact ⟨_, by rw [← e2]; rfl, hbuf, (happ1.alloc _).below_nil⟩

end Go.Proofs.YtgabmfibfikdbaaGreatDoor

/-
  Layer 9: the walks of meta's small functions.
-/
namespace Go.Proofs.YtgabmfibfikdbaaGreatDoor
open Go.RowKit Go.Bar Go.Bar.Leb Go.Bar.Frm Go.Bar.Idt Go.Bar.Met

theorem idOk_some {l : List UInt8} {t s : Nat} (h : parse l = some (t, s)) : idOk l = true := by unfold idOk; rw [h]; rfl
theorem idOk_none {l : List UInt8} (h : parse l = none) : idOk l = false := by unfold idOk; rw [h]; rfl

set_option maxHeartbeats 1000000 in
set_option maxRecDepth 10000 in
theorem isID_any (l : List UInt8) (w : World) (hl : l.length ≤ 1000000000000) :
    Calls Tryz.prog 71 #[.string (bs l)] w fun e w' => e = .returned (.bool (idOk l)) ∧ w = w' := by
  have hp := parse_any l
  obtain ⟨u, hu⟩ : ∃ u, parse l = u := ⟨_, rfl⟩
  rw [hu] at hp
  rcases u with _ | ⟨t, s⟩
  · rw [idOk_none hu]
    simp only [parseV] at hp
    have HP := Lib.hid hp
    clear hp hu
    go_enter Tryz.func71, Tryz.ntmps71
    go_wp2_with fail
    refine (HP.out _ hl).mono ?_
    rintro e w' ⟨rfl, rfl⟩
    go_wp2_with fail
    go_ret
    exact ⟨rfl, rfl⟩
  · rw [idOk_some hu]
    simp only [parseV] at hp
    have HP := Lib.hid hp
    clear hp hu
    go_enter Tryz.func71, Tryz.ntmps71
    go_wp2_with fail
    refine (HP.out _ hl).mono ?_
    rintro e w' ⟨rfl, rfl⟩
    go_wp2_with fail
    go_ret
    exact ⟨rfl, rfl⟩

/-- sources as cells -/
def scs (ss : List (List UInt8)) : List Value := ss.map fun s => .string (bs s)
/-- files as cells -/
def fcs (fs : List Fl) : List Value := fs.flatMap fun f => [.string (bs f.name), .int .i64 f.size, .int .u32 f.sum]
theorem fcs_at : ∀ (fs : List Fl) (i : Nat) (f : Fl), fs[i]? = some f → (fcs fs)[i * 3]? = some (.string (bs f.name)) ∧ (fcs fs)[i * 3 + 1]? = some (.int .i64 f.size) ∧ (fcs fs)[i * 3 + 2]? = some (.int .u32 f.sum)
  | [], i, x, h => by simp at h
  | y :: l, 0, x, h => by simp at h; subst h; simp [fcs]
  | y :: l, i + 1, x, h => by
    obtain ⟨h1, h2, h3⟩ := fcs_at l i x (by simpa using h)
    unfold fcs at h1 h2 h3 ⊢
    simp only [List.flatMap_cons, List.cons_append, List.nil_append]
    rw [show (i + 1) * 3 = i * 3 + 1 + 1 + 1 by omega]
    exact ⟨by simpa using h1, by simpa using h2, by simpa using h3⟩

/-- a slice of files, of texts -/
def FlsAt (w : World) (v : Value) (fs : List Fl) : Prop := SlAt w 3 v fs.length (fcs fs)
def SrcAt (w : World) (v : Value) (ss : List (List UInt8)) : Prop := SlAt w 1 v ss.length (scs ss)
theorem FlsAt.below {w w' : World} {v : Value} {fs : List Fl} (h : FlsAt w v fs) (hb : Below w.heap.size w w') : FlsAt w' v fs := SlAt.below h hb
theorem SrcAt.below {w w' : World} {v : Value} {ss : List (List UInt8)} (h : SrcAt w v ss) (hb : Below w.heap.size w w') : SrcAt w' v ss := SlAt.below h hb
theorem FlsAt.shape {w : World} {v : Value} {fs : List Fl} (h : FlsAt w v fs) : ∃ A c, v = .slice A fs.length c ∧ fs.length ≤ c ∧ c ≤ maxLen := SlAt.shape h
theorem SrcAt.shape {w : World} {v : Value} {ss : List (List UInt8)} (h : SrcAt w v ss) : ∃ A c, v = .slice A ss.length c ∧ ss.length ≤ c ∧ c ≤ maxLen := SlAt.shape h
theorem SrcAt.at_ {w : World} {A : Option Addr} {n c i : Nat} {ss : List (List UInt8)} {s : List UInt8} (h : SrcAt w (.slice A n c) ss) (hi : ss[i]? = some s) : ∃ b o, A = some ⟨b, o, none⟩ ∧ b < w.heap.size ∧ w.cell? ⟨b, o + i, none⟩ = some (.string (bs s)) := by
  have hlt : i < ss.length := (List.getElem?_eq_some_iff.1 hi).1
  obtain ⟨A', c', he, _⟩ := h.shape
  injection he with h1 h2 h3
  subst h1; subst h2; subst h3
  obtain ⟨b, o, rfl, hb, hc⟩ := SlAt.cells h (by omega)
  exact ⟨b, o, rfl, hb, hc i _ (by unfold scs; rw [List.getElem?_map, hi]; rfl)⟩
theorem FlsAt.at_ {w : World} {A : Option Addr} {n c i : Nat} {fs : List Fl} {f : Fl} (h : FlsAt w (.slice A n c) fs) (hi : fs[i]? = some f) : ∃ b o, A = some ⟨b, o, none⟩ ∧ b < w.heap.size ∧ w.cell? ⟨b, o + i * 3, none⟩ = some (.string (bs f.name)) ∧ w.cell? ⟨b, o + i * 3 + 1, none⟩ = some (.int .i64 f.size) ∧ w.cell? ⟨b, o + i * 3 + 2, none⟩ = some (.int .u32 f.sum) := by
  have hlt : i < fs.length := (List.getElem?_eq_some_iff.1 hi).1
  obtain ⟨A', c', he, _⟩ := h.shape
  injection he with h1 h2 h3
  subst h1; subst h2; subst h3
  obtain ⟨b, o, rfl, hb, hc⟩ := SlAt.cells h (by omega)
  obtain ⟨g1, g2, g3⟩ := fcs_at fs i _ hi
  exact ⟨b, o, rfl, hb, hc _ _ g1, hc _ _ g2, hc _ _ g3⟩

set_option maxHeartbeats 1000000 in
set_option maxRecDepth 10000 in
theorem mof_any (n d : List UInt8) (w : World) (hd : d.length ≤ 1000000000000) :
    Calls Tryz.prog 31 #[.string (bs n), .string (bs d)] w (RetBelow w (.agg #[.string (bs n), .int .i64 d.length, .int .u32 (sum d)])) := by
  have hs : ∀ w, Calls Tryz.prog 70 #[.string (bs d)] w fun e w' => e = .returned (.int .u32 (sum d)) ∧ w = w' := fun w => by
    have := sum_any (bs d) w (by rw [bs_size]; unfold maxLen; omega)
    rwa [bs_data] at this
  have HS := Lib.hid hs
  clear hs
  go_enter Tryz.func31, Tryz.ntmps31
  go_wp2_with fail
  refine (HS.out _).mono ?_
  rintro e w' ⟨rfl, rfl⟩
  go_wp2_with fail
  refine bodyPost_ret (v := .agg #[.string (bs n), .int .i64 d.length, .int .u32 (sum d)]) (by simp [results, Tryz.results31, go_sem]) rfl ⟨rfl, ?_⟩
  repeat (refine Below.setCell ?_ (Nat.le_refl _) _)
  exact (Below.refl _ _).alloc (Nat.le_refl _) _

set_option maxHeartbeats 1000000 in
set_option maxRecDepth 10000 in
theorem holds_any (n d : List UInt8) (size : Int) (sm : Nat) (w : World) (hd : d.length ≤ 1000000000000) :
    Calls Tryz.prog 68 #[.agg #[.string (bs n), .int .i64 size, .int .u32 sm], .string (bs d)] w (RetBelow w (.bool (size == d.length && sm == sum d))) := by
  have hs : ∀ w, Calls Tryz.prog 70 #[.string (bs d)] w fun e w' => e = .returned (.int .u32 (sum d)) ∧ w = w' := fun w => by
    have := sum_any (bs d) w (by rw [bs_size]; unfold maxLen; omega)
    rwa [bs_data] at this
  have HS := Lib.hid hs
  clear hs
  by_cases h : (size == (d.length : Int)) = true
  · rw [h, Bool.true_and]
    obtain ⟨b, hb⟩ : ∃ b, (((sm : Nat) : Int) == ((sum d : Nat) : Int)) = b := ⟨_, rfl⟩
    have hb' : (sm == sum d) = b := by
      rw [← hb, Bool.eq_iff_iff, beq_iff_eq, beq_iff_eq]; omega
    rw [hb']
    have HB := Lib.hid hb'
    clear hb'
    go_enter Tryz.func68, Tryz.ntmps68
    go_wp2_with fail
    have hs2 : ∀ w, Calls Tryz.prog 70 #[.string (bs d)] w fun e w' => e = .returned (.int .u32 (sum d)) ∧ ∃ n, w' = w.drewN n := fun w => (HS.out w).mono (fun e w' ⟨h1, h2⟩ => ⟨h1, 0, h2.symm⟩)
    have HT := Lib.hid hs2
    clear hs2 HS
    go_quiet (first | (go_at_call 70; refine Calls.quiet_of (HT.out _)))
    go_wp2_with fail
    go_ret
    exact ⟨rfl, below_drewN ((Below.refl _ _).alloc (Nat.le_refl _) _) _⟩
  · have h : (size == (d.length : Int)) = false := by simpa using h
    rw [h, Bool.false_and]
    go_enter Tryz.func68, Tryz.ntmps68
    go_wp2_with fail
    go_quiet (fail)
    go_wp2_with fail
    go_ret
    exact ⟨rfl, below_drewN ((Below.refl _ _).alloc (Nat.le_refl _) _) _⟩

end Go.Proofs.YtgabmfibfikdbaaGreatDoor
