/-
  Layer 2: the walks of frame.Next and frame.All.
-/
import Derived.Test.YtkdligefhofndaaDoorFrmA
import Derived.Handy
namespace Go.Proofs.YtkdligefhofndaaDoor
open Go.RowKit Go.Bar Go.Bar.Leb Go.Bar.Frm

/-- what Next returns -/
def recV (r : Rc) : Value := .agg #[.int .u8 r.1.toNat, .string (bs r.2)]
def nextV (x : Rc × List UInt8 × Nat) : Value := .tuple #[recV x.1, .string (bs x.2.1), .int .i64 x.2.2]

theorem or_shift (x b i : Nat) (h : x < 2 ^ i) : x ||| b * 2 ^ i = x + b * 2 ^ i := by
  have := Nat.two_pow_add_eq_or_of_lt h b
  rw [Nat.or_comm, Nat.mul_comm b, ← this, Nat.add_comm]
theorem num4_bits (a b c f : UInt8) (r : List UInt8) : bits .or .u32 (bits .or .u32 (bits .or .u32 ((a.toNat : Int) % 4294967296) ((b.toNat : Int) % 4294967296 * 256 % 4294967296)) ((c.toNat : Int) % 4294967296 * 65536 % 4294967296)) ((f.toNat : Int) % 4294967296 * 16777216 % 4294967296) = ((num4 (a :: b :: c :: f :: r) : Nat) : Int) := by
  have ha := UInt8.toNat_lt a
  have hb := UInt8.toNat_lt b
  have hc := UInt8.toNat_lt c
  have hf := UInt8.toNat_lt f
  simp only [num4, List.getD_cons_zero, List.getD_cons_succ]
  generalize a.toNat = x at *
  generalize b.toNat = y at *
  generalize c.toNat = z at *
  generalize f.toNat = v at *
  rw [show (x : Int) % 4294967296 = (x : Nat) by omega, show (y : Int) % 4294967296 * 256 % 4294967296 = ((y * 2 ^ 8 : Nat) : Int) by omega, show (z : Int) % 4294967296 * 65536 % 4294967296 = ((z * 2 ^ 16 : Nat) : Int) by omega, show (v : Int) % 4294967296 * 16777216 % 4294967296 = ((v * 2 ^ 24 : Nat) : Int) by omega]
  rw [u32_or_nat _ _ (by omega) (by omega), or_shift _ _ _ (by omega), u32_or_nat _ _ (by omega) (by omega), or_shift _ _ _ (by omega), u32_or_nat _ _ (by omega) (by omega), or_shift _ _ _ (by omega)]

set_option maxHeartbeats 1000000 in
set_option maxRecDepth 10000 in
theorem next_any (l : List UInt8) (w : World) (hs : l.length ≤ 9223372036854775807) :
    Calls Tryd.prog 29 #[.string (bs l)] w (RetBelow w (nextV (next l))) := by
  match l with
  | [] =>
    go_enter Tryd.func29, Tryd.ntmps29
    go_wp2_with fail
    refine (takeByte_none (bs []) _ rfl).mono ?_
    rintro e w' ⟨rfl, n, rfl⟩
    go_wp2_with fail
    go_returns
    exact ⟨rfl, ((below_drewN ((Below.refl _ _).alloc (Nat.le_refl _) _) _).setCell (by simp) _).setCell (by simp) _⟩
  | k :: l =>
    rw [List.length_cons] at hs
    obtain ⟨n, r, er, ht⟩ : ∃ n r er, takeMost l 1048576 = (n, r, er) := ⟨_, _, _, rfl⟩
    have hp := takeMost_prop l 1048576 (by omega)
    have hn1 : (takeMost l 1048576).2.2 = 0 → (takeMost l 1048576).1 ≤ 1048576 := takeMost_le l 1048576
    rw [next, ht]
    rw [ht] at hp hn1
    simp only at hp hn1 ⊢
    obtain ⟨hv, hrl, he⟩ := hp
    have HT := Lib.hid (show takeMost (bs l).data.toList 1048576 = (n, r, er) from ht)
    clear ht
    by_cases h1 : er ≠ 0
    · rw [if_pos h1]
      have hb : ((er : Int) != 0) = true := by rw [bne_iff_ne]; omega
      clear h1 he hn1
      go_enter Tryd.func29, Tryd.ntmps29
      go_wp2_with fail
      refine (takeByte_some (bs (k :: l)) _ k l (by rw [bs_size]; unfold maxLen; simp; omega) rfl).mono ?_
      rintro e w' ⟨rfl, n1, rfl⟩
      go_wp2_with fail
      refine (takeMost_of (bs l) 1048576 HT.out _ (by rw [bs_size]; unfold maxLen; omega) (by omega) (by omega)).mono ?_
      rintro e w' ⟨rfl, n2, rfl⟩
      go_wp2_with fail
      go_returns
      exact ⟨rfl, ((below_drewN ((Below.refl _ _).alloc (Nat.le_refl _) _) _).setCell (by simp) _).setCell (by simp) _⟩
    · rw [if_neg h1]
      obtain rfl : er = 0 := by omega
      have hn2 := hn1 rfl
      clear h1 he hn1
      by_cases h2 : r.length < 4 + n
      · rw [if_pos h2]
        go_enter Tryd.func29, Tryd.ntmps29
        go_wp2_with fail
        refine (takeByte_some (bs (k :: l)) _ k l (by rw [bs_size]; unfold maxLen; simp; omega) rfl).mono ?_
        rintro e w' ⟨rfl, n1, rfl⟩
        go_wp2_with fail
        refine (takeMost_of (bs l) 1048576 HT.out _ (by rw [bs_size]; unfold maxLen; omega) (by omega) (by omega)).mono ?_
        rintro e w' ⟨rfl, n2, rfl⟩
        go_wp2_with fail
        go_returns
        exact ⟨rfl, ((below_drewN ((Below.refl _ _).alloc (Nat.le_refl _) _) _).setCell (by simp) _).setCell (by simp) _⟩
      · rw [if_neg h2]
        obtain ⟨d, hd⟩ : ∃ d, d = (r.drop 4).take n := ⟨_, rfl⟩
        rw [← hd]
        have h5 : 4 ≤ r.length := by omega
        obtain ⟨a, b, c, f, r', rfl⟩ : ∃ a b c f r', r = a :: b :: c :: f :: r' := by
          match r, h5 with
          | a :: b :: c :: f :: r', _ => exact ⟨a, b, c, f, r', rfl⟩
        have h4 : n ≤ r'.length := by simp at h2; omega
        have hsz : (bs (a :: b :: c :: f :: r')).size = r'.length + 4 := rfl
        have hr4 : r'.length + 4 ≤ l.length := by simpa using hrl
        have hi0 := index_bs Tryd.underlying9 .i64 (a :: b :: c :: f :: r') 0 0 a rfl rfl
        have hi1 := index_bs Tryd.underlying9 .i64 (a :: b :: c :: f :: r') 1 1 b rfl rfl
        have hi2 := index_bs Tryd.underlying9 .i64 (a :: b :: c :: f :: r') 2 2 c rfl rfl
        have hi3 := index_bs Tryd.underlying9 .i64 (a :: b :: c :: f :: r') 3 3 f rfl rfl
        have HN := Lib.hid (num4_bits a b c f r')
        have hdl : d.length ≤ 1048576 := by rw [hd]; exact Nat.le_trans (List.length_take_le _ _) hn2
        have hx1 : (bs (k :: l)).extract 0 1 = bs [k] := bs_extract _ _ _
        have hx2 : (bs (a :: b :: c :: f :: r')).extract 4 (4 + n) = bs d := by rw [bs_extract, hd, Nat.add_sub_cancel_left]
        have hS : ∀ w, Calls Tryd.prog 10 #[.string ((bs (k :: l)).extract 0 1)] w fun e w' => e = .returned (.int .u32 (sum [k])) ∧ w = w' := fun w => by
          rw [hx1]; exact sum_any (bs [k]) w (by decide : 1 ≤ maxLen)
        have hM : ∀ w, Calls Tryd.prog 15 #[.int .u32 (sum [k]), .string ((bs (a :: b :: c :: f :: r')).extract 4 (4 + n))] w fun e w' => e = .returned (.int .u32 (rsum (k, d))) ∧ w = w' := fun w => by
          rw [hx2]; exact more_of (bs d) (sum [k]) w (by rw [bs_size]; unfold maxLen; omega) (sum_lt _) (more_sum [k] d)
        have HS := Lib.hid hS
        have HM := Lib.hid hM
        have HX := Lib.hid hx2
        clear h2 hd h5 hrl hS hM hx1 hx2
        have step : ∀ (bb : Bool) (v : Value), (((rsum (k, d) : Nat) : Int) != bits .or .u32 (bits .or .u32 (bits .or .u32 ((a.toNat : Int) % 4294967296) ((b.toNat : Int) % 4294967296 * 256 % 4294967296)) ((c.toNat : Int) % 4294967296 * 65536 % 4294967296)) ((f.toNat : Int) % 4294967296 * 16777216 % 4294967296)) = bb →
            Hid ((bb = true → v = nextV (z, [], 4)) ∧ (bb = false → v = nextV ((k, d), (a :: b :: c :: f :: r').drop (4 + n), 0))) → Calls Tryd.prog 29 #[.string (bs (k :: l))] w (RetBelow w v) := by
          intro bb v hbb hv
          go_enter Tryd.func29, Tryd.ntmps29
          go_wp2_with fail
          refine (takeByte_some (bs (k :: l)) _ k l (by rw [bs_size]; unfold maxLen; simp; omega) rfl).mono ?_
          rintro e w' ⟨rfl, n1, rfl⟩
          go_wp2_with fail
          refine (takeMost_of (bs l) 1048576 HT.out _ (by rw [bs_size]; unfold maxLen; omega) (by omega) (by omega)).mono ?_
          rintro e w' ⟨rfl, n2, rfl⟩
          go_wp2_with fail
          go_quiet (fail)
          go_wp2_with fail
          refine (HS.out _).mono ?_
          rintro e w' ⟨rfl, rfl⟩
          go_wp2_with fail
          refine (HM.out _).mono ?_
          rintro e w' ⟨rfl, rfl⟩
          clear hi0 hi1 hi2 hi3
          have hw4 : IntKind.i64.wrap (4 + (n : Int)) = 4 + (n : Int) := IntWalk.i64_in _ ⟨by omega, by omega⟩
          have hp4 : (0 : Int) ≤ 4 + (n : Int) := by omega
          rcases bb with _ | _
          · obtain rfl : v = nextV ((k, d), (a :: b :: c :: f :: r').drop (4 + n), 0) := by simpa using hv.out.2
            clear hv
            go_wp2_with fail
            go_region
            all_goals go_wp2_with fail
            all_goals go_returns
            all_goals
              have HY : (bs (a :: b :: c :: f :: r')).extract (4 + n) (r'.length + 4) = bs ((a :: b :: c :: f :: r').drop (4 + n)) := by
                rw [bs_extract, List.take_of_length_le (by rw [List.length_drop]; simp)]
              exact ⟨by rw [HX.out, HY]; rfl, ((below_drewN ((Below.refl _ _).alloc (Nat.le_refl _) _) _).setCell (by simp) _).setCell (by simp) _⟩
          · obtain rfl : v = nextV (z, [], 4) := by simpa using hv.out.1
            clear hv
            go_wp2_with fail
            go_returns
            exact ⟨rfl, ((below_drewN ((Below.refl _ _).alloc (Nat.le_refl _) _) _).setCell (by simp) _).setCell (by simp) _⟩
        by_cases h3 : rsum (k, d) = num4 (a :: b :: c :: f :: r')
        · rw [if_neg (fun h => h h3)]
          refine step false _ ?_ ⟨fun h => (by cases h), fun _ => rfl⟩
          rw [HN.out, h3]
          simp
        · rw [if_pos h3]
          refine step true _ ?_ ⟨fun _ => rfl, fun h => (by cases h)⟩
          rw [HN.out, bne_iff_ne]
          omega

theorem next_of {l r d : List UInt8} {k : UInt8} {er : Nat} (h : next l = ((k, d), r, er)) (w : World) (hs : l.length ≤ 9223372036854775807) :
    Calls Tryd.prog 29 #[.string (bs l)] w (RetBelow w (.tuple #[.agg #[.int .u8 k.toNat, .string (bs d)], .string (bs r), .int .i64 er])) := by
  have := next_any l w hs
  rw [h] at this
  exact this

/-- records as cells -/
def rcs (rs : List Rc) : List Value := rs.flatMap fun r => [.int .u8 r.1.toNat, .string (bs r.2)]
theorem rcs_snoc (rs : List Rc) (k : UInt8) (d : List UInt8) : rcs (rs ++ [(k, d)]) = rcs rs ++ [.int .u8 k.toNat, .string (bs d)] := by simp [rcs]
theorem rec_ty : ElemTy Tryd.prog 55 34 (.agg #[.int .u8 0, .string ByteArray.empty]) 2 24 :=
  ⟨Tryd.underlying55, info_parts (show (Tryd.prog.info? 34).map (fun i => (i.zero, i.size, i.bytes)) = some (some (.agg #[.int .u8 0, .string ByteArray.empty]), 2, 24) by kernel_rfl), rfl⟩

/-- how long a text is -/
def lenOf : Value → Nat
  | .string s => s.size
  | _ => 0

/-- records and how many bytes they have -/
def RetAll (w : World) (e : TypeId) (rs : List Rc) (n : Int) (en : Ending) (w' : World) : Prop :=
  ∃ v, en = .returned (.tuple #[v, .int .i64 n]) ∧ Buf w' e 2 v rs.length (rcs rs) ∧ Below w.heap.size w w'

set_option maxHeartbeats 1000000 in
set_option maxRecDepth 10000 in
theorem all_any (l : List UInt8) (w : World) (hs : l.length ≤ 1000000000000) :
    Calls Tryd.prog 16 #[.string (bs l)] w (RetAll w 34 (recs l) ((l.length : Int) - ((left l).length : Nat))) := by
  have hll := left_le l
  go_enter Tryd.func16, Tryd.ntmps16
  go_wp2_with fail
  go_loopw [4, 5] (fun v s wr => ∃ (rs : List Rc) (m : List UInt8), s = .string (bs m) ∧ rs.length * 6 + m.length ≤ l.length ∧ App w (.slice none 0 0) 34 2 0 [] wr v rs.length (rcs rs) ∧ Hid (rs ++ recs m = recs l ∧ left m = left l))
    (fun _ s _ => lenOf s)
  case atStart => exact ⟨[], l, rfl, by simp, App.start' (Buf.nil w _ _), rfl, rfl⟩
  case round =>
    obtain ⟨rs, m, rfl, hlen, happ, hr⟩ := hrel
    obtain ⟨k, d, r, er, hn⟩ : ∃ k d r er, next m = ((k, d), r, er) := ⟨_, _, _, _, rfl⟩
    have HN := Lib.hid hn
    by_cases he : er = 0
    · subst he
      have h6 := next_left m (by rw [hn])
      have hg := recs_go (l := m) (by rw [hn])
      rw [hn] at h6 hg
      simp only at h6 hg
      have HG := Lib.hid hg
      clear hg hn
      go_wp2_with fail
      refine (next_of HN.out _ (by omega)).mono ?_
      rintro e w1 ⟨rfl, hb1⟩
      have happ1 := happ.below hb1
      clear happ hb1
      go_wp2_with (at_builtin; refine wpList_append_lit rfl (.tmp 24) (.tmp 26) 55 rfl rec_ty rfl (happ1.alloc _) rfl (by simp) rfl (by simp [Value.oneCell']) (by simp only [maxLen]; omega) (by omega) ?_; intro v2 w2 happ2)
      go_roundw
      case rel => exact ⟨rs ++ [(k, d)], r, rfl, by simp; omega, by rw [rcs_snoc, List.length_append]; exact happ2, by rw [← hr.out.1, HG.out.1]; simp, by rw [← hr.out.2, HG.out.2]⟩
      case measure => simp only [lenOf, bs_size]; omega
    · have hg := recs_stop (l := m) (by rw [hn]; exact he)
      have hb : ((er : Int) != 0) = true := by rw [bne_iff_ne]; omega
      have HG := Lib.hid hg
      clear hg hn he
      go_wp2_with fail
      refine (next_of HN.out _ (by omega)).mono ?_
      rintro e w1 ⟨rfl, hb1⟩
      have happ1 := happ.below hb1
      clear happ hb1
      go_wp2_with fail
      go_ret2
      have e1 : rs = recs l := by rw [← hr.out.1, HG.out.1, List.append_nil]
      have e2 : m = left l := by rw [← hr.out.2, HG.out.2]
      have hbuf := (happ1.alloc (.cells #[.int .u8 k.toNat, .string (bs d)] 34)).buf
      rw [Nat.zero_add, List.nil_append] at hbuf
      subst e1
      exact ⟨_, by rw [← e2]; rfl, hbuf, (happ1.alloc _).below_nil⟩

end Go.Proofs.YtkdligefhofndaaDoor
