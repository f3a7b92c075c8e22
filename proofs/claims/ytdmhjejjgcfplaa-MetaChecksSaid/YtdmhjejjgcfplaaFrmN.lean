/-
  Layer 2: the walks of frame.Next and frame.All.
-/
import Derived.Test.YtdmhjejjgcfplaaFrmA
import Derived.Handy
namespace Go.Proofs.Ytdmhjejjgcfplaa
open Go.RowKit Go.Bar Go.Bar.Leb Go.Bar.Frm

/-- what Next returns -/
def recV (r : Rc) : Value := .agg #[.int .u8 r.1.toNat, .string (bs r.2)]
def nextV (x : Rc × List UInt8 × Nat) : Value := .tuple #[recV x.1, .string (bs x.2.1), .int .i64 x.2.2]

theorem or_shift (x b i : Nat) (h : x < 2 ^ i) : x ||| b * 2 ^ i = x + b * 2 ^ i := by
  have := Nat.two_pow_add_eq_or_of_lt h b
  rw [Nat.or_comm, Nat.mul_comm b, ← this, Nat.add_comm]
theorem num4_bits (a b c f : UInt8) (r : List UInt8) : bits .or .u32 (bits .or .u32 (bits .or .u32 ((a.toNat : Int) % 4294967296) ((b.toNat : Int) % 4294967296 * 256 % 4294967296)) ((c.toNat : Int) % 4294967296 * 65536 % 4294967296)) ((f.toNat : Int) % 4294967296 * 16777216 % 4294967296) = ((num4 (a :: b :: c :: f :: r) : Nat) : Int) := by
  have ha := UInt8.toNat_lt a
  have hb := UInt8.toNat_lt b
  have hc := UInt8.toNat_lt c
  have hf := UInt8.toNat_lt f
  simp only [num4, List.getD_cons_zero, List.getD_cons_succ]
  generalize a.toNat = x at *
  generalize b.toNat = y at *
  generalize c.toNat = z at *
  generalize f.toNat = v at *
  rw [show (x : Int) % 4294967296 = (x : Nat) by omega, show (y : Int) % 4294967296 * 256 % 4294967296 = ((y * 2 ^ 8 : Nat) : Int) by omega, show (z : Int) % 4294967296 * 65536 % 4294967296 = ((z * 2 ^ 16 : Nat) : Int) by omega, show (v : Int) % 4294967296 * 16777216 % 4294967296 = ((v * 2 ^ 24 : Nat) : Int) by omega]
  rw [u32_or_nat _ _ (by omega) (by omega), or_shift _ _ _ (by omega), u32_or_nat _ _ (by omega) (by omega), or_shift _ _ _ (by omega), u32_or_nat _ _ (by omega) (by omega), or_shift _ _ _ (by omega)]

set_option maxHeartbeats 1000000 in
set_option maxRecDepth 10000 in
theorem next_any (l : List UInt8) (w : World) (hs : l.length ≤ 9223372036854775807) :
    Calls Try.prog 50 #[.string (bs l)] w (RetBelow w (nextV (next l))) := by
  match l with
  | [] =>
    go_enter Try.func50, Try.ntmps50
    go_wp2_with fail
    refine (takeByte_none (bs []) _ rfl).mono ?_
    rintro e w' ⟨rfl, n, rfl⟩
    go_wp2_with fail
    go_returns
    exact ⟨rfl, ((below_drewN ((Below.refl _ _).alloc (Nat.le_refl _) _) _).setCell (by simp) _).setCell (by simp) _⟩
  | k :: l =>
    rw [List.length_cons] at hs
    obtain ⟨n, r, er, ht⟩ : ∃ n r er, takeMost l 1048576 = (n, r, er) := ⟨_, _, _, rfl⟩
    have hp := takeMost_prop l 1048576 (by omega)
    have hn1 : (takeMost l 1048576).2.2 = 0 → (takeMost l 1048576).1 ≤ 1048576 := takeMost_le l 1048576
    rw [next, ht]
    rw [ht] at hp hn1
    simp only at hp hn1 ⊢
    obtain ⟨hv, hrl, he⟩ := hp
    have HT := Lib.hid (show takeMost (bs l).data.toList 1048576 = (n, r, er) from ht)
    clear ht
    by_cases h1 : er ≠ 0
    · rw [if_pos h1]
      have hb : ((er : Int) != 0) = true := by rw [bne_iff_ne]; omega
      clear h1 he hn1
      go_enter Try.func50, Try.ntmps50
      go_wp2_with fail
      refine (takeByte_some (bs (k :: l)) _ k l (by rw [bs_size]; unfold maxLen; simp; omega) rfl).mono ?_
      rintro e w' ⟨rfl, n1, rfl⟩
      go_wp2_with fail
      refine (takeMost_of (bs l) 1048576 HT.out _ (by rw [bs_size]; unfold maxLen; omega) (by omega) (by omega)).mono ?_
      rintro e w' ⟨rfl, n2, rfl⟩
      go_wp2_with fail
      go_returns
      exact ⟨rfl, ((below_drewN ((Below.refl _ _).alloc (Nat.le_refl _) _) _).setCell (by simp) _).setCell (by simp) _⟩
    · rw [if_neg h1]
      obtain rfl : er = 0 := by omega
      have hn2 := hn1 rfl
      clear h1 he hn1
      by_cases h2 : r.length < 4 + n
      · rw [if_pos h2]
        go_enter Try.func50, Try.ntmps50
        go_wp2_with fail
        refine (takeByte_some (bs (k :: l)) _ k l (by rw [bs_size]; unfold maxLen; simp; omega) rfl).mono ?_
        rintro e w' ⟨rfl, n1, rfl⟩
        go_wp2_with fail
        refine (takeMost_of (bs l) 1048576 HT.out _ (by rw [bs_size]; unfold maxLen; omega) (by omega) (by omega)).mono ?_
        rintro e w' ⟨rfl, n2, rfl⟩
        go_wp2_with fail
        go_returns
        exact ⟨rfl, ((below_drewN ((Below.refl _ _).alloc (Nat.le_refl _) _) _).setCell (by simp) _).setCell (by simp) _⟩
      · rw [if_neg h2]
        obtain ⟨d, hd⟩ : ∃ d, d = (r.drop 4).take n := ⟨_, rfl⟩
        rw [← hd]
        have h5 : 4 ≤ r.length := by omega
        obtain ⟨a, b, c, f, r', rfl⟩ : ∃ a b c f r', r = a :: b :: c :: f :: r' := by
          match r, h5 with
          | a :: b :: c :: f :: r', _ => exact ⟨a, b, c, f, r', rfl⟩
        have h4 : n ≤ r'.length := by simp at h2; omega
        have hsz : (bs (a :: b :: c :: f :: r')).size = r'.length + 4 := rfl
        have hr4 : r'.length + 4 ≤ l.length := by simpa using hrl
        have hi0 := index_bs Try.underlying9 .i64 (a :: b :: c :: f :: r') 0 0 a rfl rfl
        have hi1 := index_bs Try.underlying9 .i64 (a :: b :: c :: f :: r') 1 1 b rfl rfl
        have hi2 := index_bs Try.underlying9 .i64 (a :: b :: c :: f :: r') 2 2 c rfl rfl
        have hi3 := index_bs Try.underlying9 .i64 (a :: b :: c :: f :: r') 3 3 f rfl rfl
        have HN := Lib.hid (num4_bits a b c f r')
        have hdl : d.length ≤ 1048576 := by rw [hd]; exact Nat.le_trans (List.length_take_le _ _) hn2
        have hx1 : (bs (k :: l)).extract 0 1 = bs [k] := bs_extract _ _ _
        have hx2 : (bs (a :: b :: c :: f :: r')).extract 4 (4 + n) = bs d := by rw [bs_extract, hd, Nat.add_sub_cancel_left]
        have hS : ∀ w, Calls Try.prog 36 #[.string ((bs (k :: l)).extract 0 1)] w fun e w' => e = .returned (.int .u32 (sum [k])) ∧ w = w' := fun w => by
          rw [hx1]; exact sum_any (bs [k]) w (by decide : 1 ≤ maxLen)
        have hM : ∀ w, Calls Try.prog 47 #[.int .u32 (sum [k]), .string ((bs (a :: b :: c :: f :: r')).extract 4 (4 + n))] w fun e w' => e = .returned (.int .u32 (rsum (k, d))) ∧ w = w' := fun w => by
          rw [hx2]; exact more_of (bs d) (sum [k]) w (by rw [bs_size]; unfold maxLen; omega) (sum_lt _) (more_sum [k] d)
        have HS := Lib.hid hS
        have HM := Lib.hid hM
        have HX := Lib.hid hx2
        clear h2 hd h5 hrl hS hM hx1 hx2
        have step : ∀ (bb : Bool) (v : Value), (((rsum (k, d) : Nat) : Int) != bits .or .u32 (bits .or .u32 (bits .or .u32 ((a.toNat : Int) % 4294967296) ((b.toNat : Int) % 4294967296 * 256 % 4294967296)) ((c.toNat : Int) % 4294967296 * 65536 % 4294967296)) ((f.toNat : Int) % 4294967296 * 16777216 % 4294967296)) = bb →
            Hid ((bb = true → v = nextV (z, [], 4)) ∧ (bb = false → v = nextV ((k, d), (a :: b :: c :: f :: r').drop (4 + n), 0))) → Calls Try.prog 50 #[.string (bs (k :: l))] w (RetBelow w v) := by
          intro bb v hbb hv
          go_enter Try.func50, Try.ntmps50
          go_wp2_with fail
          refine (takeByte_some (bs (k :: l)) _ k l (by rw [bs_size]; unfold maxLen; simp; omega) rfl).mono ?_
          rintro e w' ⟨rfl, n1, rfl⟩
          go_wp2_with fail
          refine (takeMost_of (bs l) 1048576 HT.out _ (by rw [bs_size]; unfold maxLen; omega) (by omega) (by omega)).mono ?_
          rintro e w' ⟨rfl, n2, rfl⟩
          go_wp2_with fail
          go_quiet (fail)
          go_wp2_with fail
          refine (HS.out _).mono ?_
          rintro e w' ⟨rfl, rfl⟩
          go_wp2_with fail
          refine (HM.out _).mono ?_
          rintro e w' ⟨rfl, rfl⟩
          clear hi0 hi1 hi2 hi3
          have hw4 : IntKind.i64.wrap (4 + (n : Int)) = 4 + (n : Int) := IntWalk.i64_in _ ⟨by omega, by omega⟩
          have hp4 : (0 : Int) ≤ 4 + (n : Int) := by omega
          rcases bb with _ | _
          · obtain rfl : v = nextV ((k, d), (a :: b :: c :: f :: r').drop (4 + n), 0) := by simpa using hv.out.2
            clear hv
            go_wp2_with fail
            go_region
            all_goals go_wp2_with fail
            all_goals go_returns
            all_goals
              have HY : (bs (a :: b :: c :: f :: r')).extract (4 + n) (r'.length + 4) = bs ((a :: b :: c :: f :: r').drop (4 + n)) := by
                rw [bs_extract, List.take_of_length_le (by rw [List.length_drop]; simp)]
              exact ⟨by rw [HX.out, HY]; rfl, ((below_drewN ((Below.refl _ _).alloc (Nat.le_refl _) _) _).setCell (by simp) _).setCell (by simp) _⟩
          · obtain rfl : v = nextV (z, [], 4) := by simpa using hv.out.1
            clear hv
            go_wp2_with fail
            go_returns
            exact ⟨rfl, ((below_drewN ((Below.refl _ _).alloc (Nat.le_refl _) _) _).setCell (by simp) _).setCell (by simp) _⟩
        by_cases h3 : rsum (k, d) = num4 (a :: b :: c :: f :: r')
        · rw [if_neg (fun h => h h3)]
          refine step false _ ?_ ⟨fun h => (by cases h), fun _ => rfl⟩
          rw [HN.out, h3]
          simp
        · rw [if_pos h3]
          refine step true _ ?_ ⟨fun _ => rfl, fun h => (by cases h)⟩
          rw [HN.out, bne_iff_ne]
          omega

theorem next_of {l r d : List UInt8} {k : UInt8} {er : Nat} (h : next l = ((k, d), r, er)) (w : World) (hs : l.length ≤ 9223372036854775807) :
    Calls Try.prog 50 #[.string (bs l)] w (RetBelow w (.tuple #[.agg #[.int .u8 k.toNat, .string (bs d)], .string (bs r), .int .i64 er])) := by
  have := next_any l w hs
  rw [h] at this
  exact this

/-- how long a text is -/
def lenOf : Value → Nat
  | .string s => s.size
  | _ => 0

end Go.Proofs.Ytdmhjejjgcfplaa
